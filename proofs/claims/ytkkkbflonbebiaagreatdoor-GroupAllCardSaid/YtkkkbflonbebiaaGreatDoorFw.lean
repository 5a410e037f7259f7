import Derived.Test.YtkkkbflonbebiaaGreatDoorFp
import Derived.Test.YtkkkbflonbebiaaGreatDoorProg
set_option autoImplicit false
set_option linter.unusedVariables false
set_option linter.unusedSimpArgs false
namespace Go.Vx
open Go Go.Proofs
def Zlu : Ct := fct (.cons (.int .u64) (.cons (.int .u64) (.one (.int .u64)))) (.tup (.cons (.int .u64) (.one (.int .u64)))) fun x => Zen x.1 x.2.1 x.2.2
theorem ZrO {w0 : World} : SoundAt Tryz.prog w0 138 Zlu :=
  ZGj Tryz.func138 (by kernel_rfl) (by kernel_rfl) (by kernel_rfl) (by kernel_rfl)
def Zwe : Ct := fct (.cons (.int .u64) (.cons (.int .u64) (.one (.int .u64)))) (.tup (.cons (.int .u64) (.one (.int .u64)))) fun x => Zgm x.1 x.2.1 x.2.2
theorem ZFy {w0 : World} : SoundAt Tryz.prog w0 158 Zwe :=
  ZGi Tryz.func158 (by kernel_rfl) (by kernel_rfl) (by kernel_rfl) (by kernel_rfl)
def ZmV : Ct := tct (.cons (.tup (.cons (.lst .u8) (.one (.lit (.clo 5 []))))) (.one (.tup (.cons (.lst .u8) (.one (.lit (.clo 5 []))))))) (.int .i64) fun x => ZgS x.1 x.2
theorem Zyc {w0 : World} : SoundAt Tryz.prog w0 92 ZmV :=
  ZDZ Tryz.func92 (by kernel_rfl) (by kernel_rfl) (by kernel_rfl) (by kernel_rfl)
abbrev ZmW : Ag (List Int) := (.one (.ints .u64 5))
abbrev ZmX : Pt (List Int) := (.ints .u64 5)
def Zib : Ct := tct ZmW ZmX fun x => ZbP x
def ZlM : List (FuncId × Ct) := []
def ZuG : List Gv := []
noncomputable def ZuH : List (Nat × Lf) := []
theorem Zwf : RunIs Tryz.prog (ZlM) ZuG 0 (ZuH) Tryz.f123 ZmW ZmX (fun x => some (ZbP x)) := by
  intro x; kernel_rfl
theorem Zwg {w0 : World}  (hcs : ∀ x ∈ ZlM, SoundAt Tryz.prog w0 x.1 x.2) : SoundAt Tryz.prog w0 123 Zib := by
  exact Za9 (Zak hcs (Zaq _ _) Tryz.func123 (by kernel_rfl) (by kernel_rfl) (S := 0) (fun w _ => Zal _) (fun _ => rfl) (Zwf)) fun _ _ => rfl
theorem Zwh {w0 : World}  : SoundAt Tryz.prog w0 123 Zib :=
  Zwg ZaH
abbrev ZmY : Ag (List Int) := (.one (.ints .u64 5))
abbrev ZmZ : Pt (List Int) := (.ints .u64 5)
def Zba : Ct := tct ZmY ZmZ fun x => Zaa x
def ZlN : List (FuncId × Ct) := [(123, Zib)]
def ZuI : List Gv := []
noncomputable def ZuJ : List (Nat × Lf) := []
theorem Zwi : RunIs Tryz.prog (ZlN) ZuI 0 (ZuJ) Tryz.f79 ZmY ZmZ (fun x => some (Zaa x)) := by
  intro x; kernel_rfl
theorem Zwj {w0 : World}  (hcs : ∀ x ∈ ZlN, SoundAt Tryz.prog w0 x.1 x.2) : SoundAt Tryz.prog w0 79 Zba := by
  exact Za9 (Zak hcs (Zaq _ _) Tryz.func79 (by kernel_rfl) (by kernel_rfl) (S := 0) (fun w _ => Zal _) (fun _ => rfl) (Zwi)) fun _ _ => rfl
theorem ZbD {w0 : World}  : SoundAt Tryz.prog w0 79 Zba :=
  Zwj (Zah (Zwh) ZaH)
abbrev Zop : Ag (List Int) := (.one (.ints .u64 5))
abbrev Zoq : Pt (Bool) := .bool
def ZdW : Ct := tct Zop Zoq fun x => ZaW x
def Zm0 : List (FuncId × Ct) := []
def Zwk : List Gv := []
noncomputable def Zwl : List (Nat × Lf) := []
theorem Zyd : RunIs Tryz.prog (Zm0) Zwk 0 (Zwl) Tryz.f96 Zop Zoq (fun x => some (ZaW x)) := by
  intro x; kernel_rfl
theorem Zye {w0 : World}  (hcs : ∀ x ∈ Zm0, SoundAt Tryz.prog w0 x.1 x.2) : SoundAt Tryz.prog w0 96 ZdW := by
  exact Za9 (Zak hcs (Zaq _ _) Tryz.func96 (by kernel_rfl) (by kernel_rfl) (S := 0) (fun w _ => Zal _) (fun _ => rfl) (Zyd)) fun _ _ => rfl
theorem Zhm {w0 : World}  : SoundAt Tryz.prog w0 96 ZdW :=
  Zye ZaH
abbrev ZzL : Ag ((Int × Int × Int × Int × Int)) := (.cons (.int .u64) (.cons (.int .u64) (.cons (.int .u64) (.cons (.int .u64) (.one (.int .u64))))))
abbrev ZzM : Pt (List Int) := (.ints .u64 5)
def ZpW : Ct := tct ZzL ZzM fun x => Zgo x.1 x.2.1 x.2.2.1 x.2.2.2.1 x.2.2.2.2
def Zwm : List (FuncId × Ct) := []
def ZD3 : List Gv := []
noncomputable def ZD4 : List (Nat × Lf) := []
theorem ZFz : RunIs Tryz.prog (Zwm) ZD3 0 (ZD4) Tryz.f136 ZzL ZzM (fun x => some (Zgo x.1 x.2.1 x.2.2.1 x.2.2.2.1 x.2.2.2.2)) := by
  intro x; kernel_rfl
theorem ZFA {w0 : World}  (hcs : ∀ x ∈ Zwm, SoundAt Tryz.prog w0 x.1 x.2) : SoundAt Tryz.prog w0 136 ZpW := by
  exact Za9 (Zak hcs (Zaq _ _) Tryz.func136 (by kernel_rfl) (by kernel_rfl) (S := 0) (fun w _ => Zal _) (fun _ => rfl) (ZFz)) fun _ _ => rfl
theorem ZFB {w0 : World}  : SoundAt Tryz.prog w0 136 ZpW :=
  ZFA ZaH
abbrev Zt3 : Ag ((Int × Int × Int × Int × Int)) := (.cons (.int .u64) (.cons (.int .u64) (.cons (.int .u64) (.cons (.int .u64) (.one (.int .u64))))))
abbrev Zt4 : Pt (List Int) := (.ints .u64 5)
def ZgT : Ct := tct Zt3 Zt4 fun x => ZbM x.1 x.2.1 x.2.2.1 x.2.2.2.1 x.2.2.2.2
def ZrP : List (FuncId × Ct) := [(136, ZpW)]
def ZBO : List Gv := []
noncomputable def ZBP : List (Nat × Lf) := []
theorem ZCt : RunIs Tryz.prog (ZrP) ZBO 0 (ZBP) Tryz.f97 Zt3 Zt4 (fun x => ZnU x.1 x.2.1 x.2.2.1 x.2.2.2.1 x.2.2.2.2) := by
  intro x; kernel_rfl
theorem ZCu {w0 : World}  (hcs : ∀ x ∈ ZrP, SoundAt Tryz.prog w0 x.1 x.2) : SoundAt Tryz.prog w0 97 ZgT := by
  exact Za9 (Zak hcs (Zaq _ _) Tryz.func97 (by kernel_rfl) (by kernel_rfl) (S := 0) (fun w _ => Zal _) (fun _ => rfl) (ZCt)) fun _ _ => Zz7 _ _ _ _ _
theorem ZnX {w0 : World}  : SoundAt Tryz.prog w0 97 ZgT :=
  ZCu (Zah (ZFB) ZaH)
abbrev Zqk : Ag ((List Int × List Int)) := (.cons (.ints .u64 5) (.one (.ints .u64 5)))
abbrev Zql : Pt (List Int) := (.ints .u64 5)
def Zdi : Ct := tct Zqk Zql fun x => ZaU x.1 x.2
def Zor : List (FuncId × Ct) := [(79, Zba), (96, ZdW), (97, ZgT)]
def Zyf : List Gv := []
noncomputable def Zyg : List (Nat × Lf) := []
theorem Zz9 : RunIs Tryz.prog (Zor) Zyf 0 (Zyg) Tryz.f37 Zqk Zql (fun x => ZkG x.1 x.2) := by
  intro x; kernel_rfl
theorem ZAa {w0 : World}  (hcs : ∀ x ∈ Zor, SoundAt Tryz.prog w0 x.1 x.2) : SoundAt Tryz.prog w0 37 Zdi := by
  exact Za9 (Zak hcs (Zaq _ _) Tryz.func37 (by kernel_rfl) (by kernel_rfl) (S := 0) (fun w _ => Zal _) (fun _ => rfl) (Zz9)) fun _ _ => Zwc _ _
theorem ZeV {w0 : World}  : SoundAt Tryz.prog w0 37 Zdi :=
  ZAa (Zah (ZbD) (Zah (Zhm) (Zah (ZnX) ZaH)))
abbrev Zqm : Ag ((List Int × List Int)) := (.cons (.ints .u64 5) (.one (.ints .u64 5)))
abbrev Zqn : Pt (List Int) := (.ints .u64 5)
def ZcP : Ct := tct Zqm Zqn fun x => ZaE x.1 x.2
def Zos : List (FuncId × Ct) := [(79, Zba), (96, ZdW), (97, ZgT)]
def Zyh : List Gv := []
noncomputable def Zyi : List (Nat × Lf) := []
theorem ZAb : RunIs Tryz.prog (Zos) Zyh 0 (Zyi) Tryz.f35 Zqm Zqn (fun x => ZkH x.1 x.2) := by
  intro x; kernel_rfl
theorem ZAc {w0 : World}  (hcs : ∀ x ∈ Zos, SoundAt Tryz.prog w0 x.1 x.2) : SoundAt Tryz.prog w0 35 ZcP := by
  exact Za9 (Zak hcs (Zaq _ _) Tryz.func35 (by kernel_rfl) (by kernel_rfl) (S := 0) (fun w _ => Zal _) (fun _ => rfl) (ZAb)) fun _ _ => Zwd _ _
theorem Zd2 {w0 : World}  : SoundAt Tryz.prog w0 35 ZcP :=
  ZAc (Zah (ZbD) (Zah (Zhm) (Zah (ZnX) ZaH)))
abbrev Zqo : Ag (List Int) := (.one (.ints .u64 5))
abbrev Zqp : Pt (List Int) := (.ints .u64 5)
def ZcQ : Ct := tct Zqo Zqp fun x => ZaS x
def Zot : List (FuncId × Ct) := [(35, ZcP)]
def Zyj : List Gv := []
noncomputable def Zyk : List (Nat × Lf) := []
theorem ZAd : RunIs Tryz.prog (Zot) Zyj 0 (Zyk) Tryz.f58 Zqo Zqp (fun x => some (ZaS x)) := by
  intro x; kernel_rfl
theorem ZAe {w0 : World}  (hcs : ∀ x ∈ Zot, SoundAt Tryz.prog w0 x.1 x.2) : SoundAt Tryz.prog w0 58 ZcQ := by
  exact Za9 (Zak hcs (Zaq _ _) Tryz.func58 (by kernel_rfl) (by kernel_rfl) (S := 0) (fun w _ => Zal _) (fun _ => rfl) (ZAd)) fun _ _ => rfl
theorem Zd3 {w0 : World}  : SoundAt Tryz.prog w0 58 ZcQ :=
  ZAe (Zah (Zd2) ZaH)
abbrev ZzN : Ag ((Int × Int)) := (.cons (.int .u64) (.one (.int .u64)))
abbrev ZzO : Pt ((Int × Int)) := (.tup (.cons (.int .u64) (.one (.int .u64))))
def Zlv : Ct := tct ZzN ZzO fun x => Zgp x.1 x.2
def Zwn : List (FuncId × Ct) := []
def ZD5 : List Gv := []
noncomputable def ZD6 : List (Nat × Lf) := []
theorem ZFC : RunIs Tryz.prog (Zwn) ZD5 0 (ZD6) Tryz.f137 ZzN ZzO (fun x => some (Zgp x.1 x.2)) := by
  intro x; kernel_rfl
theorem ZFD {w0 : World}  (hcs : ∀ x ∈ Zwn, SoundAt Tryz.prog w0 x.1 x.2) : SoundAt Tryz.prog w0 137 Zlv := by
  exact Za9 (Zak hcs (Zaq _ _) Tryz.func137 (by kernel_rfl) (by kernel_rfl) (S := 0) (fun w _ => Zal _) (fun _ => rfl) (ZFC)) fun _ _ => rfl
theorem ZzP {w0 : World}  : SoundAt Tryz.prog w0 137 Zlv :=
  ZFD ZaH
abbrev ZlO : Ag (((Int × Int) × Int × Int)) := (.cons (.agg (.cons (.int .u64) (.one (.int .u64)))) (.cons (.int .u64) (.one (.int .u64))))
abbrev ZlP : Pt ((Int × Int)) := (.agg (.cons (.int .u64) (.one (.int .u64))))
def Zea : Ct := fct ZlO ZlP fun x => Zad x.1 x.2.1 x.2.2
def ZkT : List (FuncId × Ct) := [(137, Zlv), (138, Zlu)]
def Zte : List Gv := []
noncomputable def Ztf : List (Nat × Lf) := []
theorem ZuK : RunIs Tryz.prog (ZkT) Zte 0 (Ztf) Tryz.f98 ZlO ZlP (fun x => Zad x.1 x.2.1 x.2.2) := by
  intro x; kernel_rfl
theorem ZuL {w0 : World}  (hcs : ∀ x ∈ ZkT, SoundAt Tryz.prog w0 x.1 x.2) : SoundAt Tryz.prog w0 98 Zea := by
  exact Zak hcs (Zaq _ _) Tryz.func98 (by kernel_rfl) (by kernel_rfl) (S := 0) (fun w _ => Zal _) (fun _ => rfl) (ZuK)
theorem Zic {w0 : World}  : SoundAt Tryz.prog w0 98 Zea :=
  ZuL (Zah (ZzP) (Zah (ZrO) ZaH))
abbrev ZlQ : Ag ((Int × Int)) := (.one (.agg (.cons (.int .u64) (.one (.int .u64)))))
abbrev ZlR : Pt (Int) := (.int .u64)
def Zhx : Ct := tct ZlQ ZlR fun x => Zcq x
def ZkU : List (FuncId × Ct) := []
def Ztg : List Gv := []
noncomputable def Zth : List (Nat × Lf) := []
theorem ZuM : RunIs Tryz.prog (ZkU) Ztg 0 (Zth) Tryz.f139 ZlQ ZlR (fun x => some (Zcq x)) := by
  intro x; kernel_rfl
theorem ZuN {w0 : World}  (hcs : ∀ x ∈ ZkU, SoundAt Tryz.prog w0 x.1 x.2) : SoundAt Tryz.prog w0 139 Zhx := by
  exact Za9 (Zak hcs (Zaq _ _) Tryz.func139 (by kernel_rfl) (by kernel_rfl) (S := 0) (fun w _ => Zal _) (fun _ => rfl) (ZuM)) fun _ _ => rfl
theorem ZuO {w0 : World}  : SoundAt Tryz.prog w0 139 Zhx :=
  ZuN ZaH
abbrev ZrQ : Ag (((Int × Int) × (Int × Int) × (Int × Int) × (Int × Int) × (Int × Int))) := (.cons (.agg (.cons (.int .u64) (.one (.int .u64)))) (.cons (.agg (.cons (.int .u64) (.one (.int .u64)))) (.cons (.agg (.cons (.int .u64) (.one (.int .u64)))) (.cons (.agg (.cons (.int .u64) (.one (.int .u64)))) (.one (.agg (.cons (.int .u64) (.one (.int .u64)))))))))
abbrev ZrR : Pt (List Int) := (.ints .u64 5)
def Zh4 : Ct := fct ZrQ ZrR fun x => Zdt x.1 x.2.1 x.2.2.1 x.2.2.2.1 x.2.2.2.2
def Zqq : List (FuncId × Ct) := [(97, ZgT), (98, Zea), (139, Zhx)]
def ZAf : List Gv := []
noncomputable def ZAg : List (Nat × Lf) := []
theorem ZBQ : RunIs Tryz.prog (Zqq) ZAf 0 (ZAg) Tryz.f99 ZrQ ZrR (fun x => Zdt x.1 x.2.1 x.2.2.1 x.2.2.2.1 x.2.2.2.2) := by
  intro x; kernel_rfl
theorem ZBR {w0 : World}  (hcs : ∀ x ∈ Zqq, SoundAt Tryz.prog w0 x.1 x.2) : SoundAt Tryz.prog w0 99 Zh4 := by
  exact Zak hcs (Zaq _ _) Tryz.func99 (by kernel_rfl) (by kernel_rfl) (S := 0) (fun w _ => Zal _) (fun _ => rfl) (ZBQ)
theorem ZrS {w0 : World}  : SoundAt Tryz.prog w0 99 Zh4 :=
  ZBR (Zah (ZnX) (Zah (Zic) (Zah (ZuO) ZaH)))
abbrev Zqr : Ag ((List Int × List Int)) := (.cons (.ints .u64 5) (.one (.ints .u64 5)))
abbrev Zqs : Pt (List Int) := (.ints .u64 5)
def Zbz : Ct := fct Zqr Zqs fun x => Zan x.1 x.2
def Zou : List (FuncId × Ct) := [(79, Zba), (96, ZdW), (98, Zea), (99, Zh4)]
def Zyl : List Gv := []
noncomputable def Zym : List (Nat × Lf) := []
theorem ZAh : RunIs Tryz.prog (Zou) Zyl 0 (Zym) Tryz.f36 Zqr Zqs (fun x => Zan x.1 x.2) := by
  intro x; kernel_rfl
theorem ZAi {w0 : World}  (hcs : ∀ x ∈ Zou, SoundAt Tryz.prog w0 x.1 x.2) : SoundAt Tryz.prog w0 36 Zbz := by
  exact Zak hcs (Zaq _ _) Tryz.func36 (by kernel_rfl) (by kernel_rfl) (S := 0) (fun w _ => Zal _) (fun _ => rfl) (ZAh)
theorem ZbY {w0 : World}  : SoundAt Tryz.prog w0 36 Zbz :=
  ZAi (Zah (ZbD) (Zah (Zhm) (Zah (Zic) (Zah (ZrS) ZaH))))
abbrev ZlS : Ag (List Int) := (.one (.ints .u64 5))
abbrev ZlT : Pt (List Int) := (.ints .u64 5)
def ZbV : Ct := fct ZlS ZlT fun x => ZaP x
def ZkV : List (FuncId × Ct) := [(79, Zba), (96, ZdW), (98, Zea), (99, Zh4)]
def Zti : List Gv := []
noncomputable def Ztj : List (Nat × Lf) := []
theorem ZuP : RunIs Tryz.prog (ZkV) Zti 0 (Ztj) Tryz.f53 ZlS ZlT (fun x => ZaP x) := by
  intro x; kernel_rfl
theorem ZuQ {w0 : World}  (hcs : ∀ x ∈ ZkV, SoundAt Tryz.prog w0 x.1 x.2) : SoundAt Tryz.prog w0 53 ZbV := by
  exact Zak hcs (Zaq _ _) Tryz.func53 (by kernel_rfl) (by kernel_rfl) (S := 0) (fun w _ => Zal _) (fun _ => rfl) (ZuP)
theorem ZcG {w0 : World}  : SoundAt Tryz.prog w0 53 ZbV :=
  ZuQ (Zah (ZbD) (Zah (Zhm) (Zah (Zic) (Zah (ZrS) ZaH))))
abbrev ZzQ : Ag (List Int) := (.one (.ints .u8 32))
abbrev ZzR : Pt (List Int) := (.ints .u64 5)
def Zlw : Ct := tct ZzQ ZzR fun x => ZdK x
def Zwo : List (FuncId × Ct) := []
def ZD7 : List Gv := []
noncomputable def ZD8 : List (Nat × Lf) := []
theorem ZFE : RunIs Tryz.prog (Zwo) ZD7 0 (ZD8) Tryz.f78 ZzQ ZzR (fun x => some (ZdK x)) := by
  intro x; kernel_rfl
theorem ZFF {w0 : World}  (hcs : ∀ x ∈ Zwo, SoundAt Tryz.prog w0 x.1 x.2) : SoundAt Tryz.prog w0 78 Zlw := by
  exact Za9 (Zak hcs (Zaq _ _) Tryz.func78 (by kernel_rfl) (by kernel_rfl) (S := 0) (fun w _ => Zal _) (fun _ => rfl) (ZFE)) fun _ _ => rfl
theorem ZzS {w0 : World}  : SoundAt Tryz.prog w0 78 Zlw :=
  ZFF ZaH
abbrev Zt5 : Ag (List Int) := (.one (.ints .u8 32))
abbrev Zt6 : Pt ((List Int × Int)) := (.tup (.cons (.ints .u64 5) (.one (.int .i64))))
def ZlU : Ct := tct Zt5 Zt6 fun x => Zbj x
def ZrT : List (FuncId × Ct) := [(78, Zlw), (79, Zba)]
def ZBS : List Gv := []
noncomputable def ZBT : List (Nat × Lf) := []
theorem ZCv : RunIs Tryz.prog (ZrT) ZBS 0 (ZBT) Tryz.f114 Zt5 Zt6 (fun x => ZnV x) := by
  intro x; kernel_rfl
theorem ZCw {w0 : World}  (hcs : ∀ x ∈ ZrT, SoundAt Tryz.prog w0 x.1 x.2) : SoundAt Tryz.prog w0 114 ZlU := by
  exact Za9 (Zak hcs (Zaq _ _) Tryz.func114 (by kernel_rfl) (by kernel_rfl) (S := 0) (fun w _ => Zal _) (fun _ => rfl) (ZCv)) fun _ _ => Zz8 _
theorem ZCx {w0 : World}  : SoundAt Tryz.prog w0 114 ZlU :=
  ZCw (Zah (ZzS) (Zah (ZbD) ZaH))
abbrev Zt7 : Ag (List Int) := (.one (.ints .u8 32))
abbrev Zt8 : Pt (List Int) := (.ints .u64 5)
def ZlV : Ct := tct Zt7 Zt8 fun x => Zej x
def ZrU : List (FuncId × Ct) := [(78, Zlw), (79, Zba)]
def ZBU : List Gv := []
noncomputable def ZBV : List (Nat × Lf) := []
theorem ZCy : RunIs Tryz.prog (ZrU) ZBU 0 (ZBV) Tryz.f19 Zt7 Zt8 (fun x => some (Zej x)) := by
  intro x; kernel_rfl
theorem ZCz {w0 : World}  (hcs : ∀ x ∈ ZrU, SoundAt Tryz.prog w0 x.1 x.2) : SoundAt Tryz.prog w0 19 ZlV := by
  exact Za9 (Zak hcs (Zaq _ _) Tryz.func19 (by kernel_rfl) (by kernel_rfl) (S := 0) (fun w _ => Zal _) (fun _ => rfl) (ZCy)) fun _ _ => rfl
theorem ZCA {w0 : World}  : SoundAt Tryz.prog w0 19 ZlV :=
  ZCz (Zah (ZzS) (Zah (ZbD) ZaH))
abbrev ZlW : Ag (List Int) := (.one (.ints .u64 5))
abbrev ZlX : Pt (List Int) := (.ints .u8 32)
def Zfo : Ct := tct ZlW ZlX fun x => ZaB x
def ZkW : List (FuncId × Ct) := [(79, Zba)]
def Ztk : List Gv := []
noncomputable def Ztl : List (Nat × Lf) := []
theorem ZuR : RunIs Tryz.prog (ZkW) Ztk 0 (Ztl) Tryz.f60 ZlW ZlX (fun x => some (ZaB x)) := by
  intro x; kernel_rfl
theorem ZuS {w0 : World}  (hcs : ∀ x ∈ ZkW, SoundAt Tryz.prog w0 x.1 x.2) : SoundAt Tryz.prog w0 60 Zfo := by
  exact Za9 (Zak hcs (Zaq _ _) Tryz.func60 (by kernel_rfl) (by kernel_rfl) (S := 0) (fun w _ => Zal _) (fun _ => rfl) (ZuR)) fun _ _ => rfl
theorem ZlY {w0 : World}  : SoundAt Tryz.prog w0 60 Zfo :=
  ZuS (Zah (ZbD) ZaH)
abbrev ZkX : Ag ((List Int × Int)) := (.cons (.ints .u64 5) (.one (.int .i64)))
abbrev ZkY : Pt (List Int) := (.ints .u64 5)
def ZdT (N : Nat) : Ct := fct ZkX ZkY fun x => ZaM N x.1 x.2
def Ze2 (N : Nat) : List (FuncId × Ct) := [(53, ZbV)]
def ZgU : List Gv := []
def ZfP : Fm ((Unit × Unit × Int × Int)) ((List Int × Unit)) := ⟨(.cons 2 (.lit (.ptr 0 [] 26)) (.cons 4 (.lit (.ptr 1 [] 26)) (.cons 5 (.int .i64) (.one 6 (.int .i64))))), (.cons 0 (.ints .u64 5) (.one 1 (.lit (.ints .u64 5 [0, 0, 0, 0, 0]))))⟩
def ZfQ : Fm ((Unit × Unit)) ((List Int × Unit)) := ⟨(.cons 2 (.lit (.ptr 0 [] 26)) (.one 4 (.lit (.ptr 1 [] 26)))), (.cons 0 (.ints .u64 5) (.one 1 (.lit (.ints .u64 5 [0, 0, 0, 0, 0]))))⟩
def ZfR : Fm (Unit) (Unit) := ⟨.nil, .nil⟩
noncomputable def ZgV (N : Nat) : List (Nat × Lf) := [(0, loopCt ZfP ZfQ ZfR 4 (ZcE N) N)]
theorem ZmJ (N : Nat) : StepIs Tryz.prog (cxOf Tryz.f121 (Ze2 N) ZgU 0) (ZgV N) Tryz.f121 0 4 ZfP ZfQ ZfR (ZcE N) := by
  intro v; kernel_rfl
theorem Ztm (N : Nat) : RunIs Tryz.prog (Ze2 N) ZgU 0 (ZgV N) Tryz.f121 ZkX ZkY (fun x => ZaM N x.1 x.2) := by
  intro x; kernel_rfl
theorem Ztn {w0 : World} (N : Nat)  (hcs : ∀ x ∈ Ze2 N, SoundAt Tryz.prog w0 x.1 x.2) : SoundAt Tryz.prog w0 121 (ZdT N) := by
  have L0 : ∀ w, RowKit.Below w0.heap.size w0 w → LoopOK Tryz.prog (cxOf Tryz.f121 (Ze2 N) ZgU 0) w 0 (.loop (loopBody Tryz.f121 0)) (loopCt ZfP ZfQ ZfR 4 (ZcE N) N) :=
    Zbu hcs (ls := ZgV N) (n := 100) (by kernel_rfl) (ZmJ N) N fun w hw => ZaG (lp_no (by kernel_rfl) ZcL)
  exact Zak hcs (Zaq _ _) Tryz.func121 (by kernel_rfl) (by kernel_rfl) (S := 0) (fun w hw => ZaG (ZfD (L0 w hw) (by kernel_rfl) ZcL)) (fun _ => rfl) (Ztm N)
theorem Zhy {w0 : World} (N : Nat)  : SoundAt Tryz.prog w0 121 (ZdT N) :=
  Ztn N (Zah (ZcG) ZaH)
abbrev Zov : Ag (List Int) := (.one (.ints .u64 5))
abbrev Zow : Pt ((List Int × List Int)) := (.tup (.cons (.ints .u64 5) (.one (.ints .u64 5))))
def ZgC (N : Nat) : Ct := fct Zov Zow fun x => ZfB N x
def Zm1 (N : Nat) : List (FuncId × Ct) := [(36, Zbz), (53, ZbV), (121, (ZdT N))]
def Zwp : List Gv := []
noncomputable def Zwq (N : Nat) : List (Nat × Lf) := []
theorem Zyn (N : Nat) : RunIs Tryz.prog (Zm1 N) Zwp 0 (Zwq N) Tryz.f120 Zov Zow (fun x => ZfB N x) := by
  intro x; kernel_rfl
theorem Zyo {w0 : World} (N : Nat)  (hcs : ∀ x ∈ Zm1 N, SoundAt Tryz.prog w0 x.1 x.2) : SoundAt Tryz.prog w0 120 (ZgC N) := by
  exact Zak hcs (Zaq _ _) Tryz.func120 (by kernel_rfl) (by kernel_rfl) (S := 0) (fun w _ => Zal _) (fun _ => rfl) (Zyn N)
theorem Zox {w0 : World} (N : Nat)  : SoundAt Tryz.prog w0 120 (ZgC N) :=
  Zyo N (Zah (ZbY) (Zah (ZcG) (Zah (Zhy N) ZaH)))
abbrev ZlZ : Ag (List Int) := (.one (.ints .u64 5))
abbrev Zl0 : Pt (List Int) := (.ints .u64 5)
def Zfp (N : Nat) : Ct := fct ZlZ Zl0 fun x => Zdg N x
def ZkZ (N : Nat) : List (FuncId × Ct) := [(36, Zbz), (120, (ZgC N)), (121, (ZdT N))]
def Zto : List Gv := []
noncomputable def Ztp (N : Nat) : List (Nat × Lf) := []
theorem ZuT (N : Nat) : RunIs Tryz.prog (ZkZ N) Zto 0 (Ztp N) Tryz.f76 ZlZ Zl0 (fun x => Zdg N x) := by
  intro x; kernel_rfl
theorem ZuU {w0 : World} (N : Nat)  (hcs : ∀ x ∈ ZkZ N, SoundAt Tryz.prog w0 x.1 x.2) : SoundAt Tryz.prog w0 76 (Zfp N) := by
  exact Zak hcs (Zaq _ _) Tryz.func76 (by kernel_rfl) (by kernel_rfl) (S := 0) (fun w _ => Zal _) (fun _ => rfl) (ZuT N)
theorem Zl1 {w0 : World} (N : Nat)  : SoundAt Tryz.prog w0 76 (Zfp N) :=
  ZuU N (Zah (ZbY) (Zah (Zox N) (Zah (Zhy N) ZaH)))
abbrev Zoy : Ag (List Int) := (.one (.ints .u64 5))
abbrev Zoz : Pt (List Int) := (.ints .u64 5)
def ZiM (N : Nat) : Ct := fct Zoy Zoz fun x => ZgR N x
def Zm2 (N : Nat) : List (FuncId × Ct) := [(36, Zbz), (120, (ZgC N)), (121, (ZdT N))]
def Zwr : List Gv := []
noncomputable def Zws (N : Nat) : List (Nat × Lf) := []
theorem Zyp (N : Nat) : RunIs Tryz.prog (Zm2 N) Zwr 0 (Zws N) Tryz.f105 Zoy Zoz (fun x => ZgR N x) := by
  intro x; kernel_rfl
theorem Zyq {w0 : World} (N : Nat)  (hcs : ∀ x ∈ Zm2 N, SoundAt Tryz.prog w0 x.1 x.2) : SoundAt Tryz.prog w0 105 (ZiM N) := by
  exact Zak hcs (Zaq _ _) Tryz.func105 (by kernel_rfl) (by kernel_rfl) (S := 0) (fun w _ => Zal _) (fun _ => rfl) (Zyp N)
theorem Zyr {w0 : World} (N : Nat)  : SoundAt Tryz.prog w0 105 (ZiM N) :=
  Zyq N (Zah (ZbY) (Zah (Zox N) (Zah (Zhy N) ZaH)))
abbrev Zqt : Ag (List Int) := (.one (.ints .u64 5))
abbrev Zqu : Pt (List Int) := (.ints .u64 5)
def ZfF : Ct := tct Zqt Zqu fun x => ZbF x
def ZoA : List (FuncId × Ct) := []
def Zys : List Gv := []
noncomputable def Zyt : List (Nat × Lf) := []
theorem ZAj : RunIs Tryz.prog (ZoA) Zys 0 (Zyt) Tryz.f51 Zqt Zqu (fun x => some (ZbF x)) := by
  intro x; kernel_rfl
theorem ZAk {w0 : World}  (hcs : ∀ x ∈ ZoA, SoundAt Tryz.prog w0 x.1 x.2) : SoundAt Tryz.prog w0 51 ZfF := by
  exact Za9 (Zak hcs (Zaq _ _) Tryz.func51 (by kernel_rfl) (by kernel_rfl) (S := 0) (fun w _ => Zal _) (fun _ => rfl) (ZAj)) fun _ _ => rfl
theorem ZkI {w0 : World}  : SoundAt Tryz.prog w0 51 ZfF :=
  ZAk ZaH
abbrev Zl2 : Ag (List Int) := (.one (.ints .u64 5))
abbrev Zl3 : Pt (Bool) := .bool
def Zhz : Ct := tct Zl2 Zl3 fun x => ZcO x
def Zk0 : List (FuncId × Ct) := [(79, Zba)]
def Ztq : List Gv := []
noncomputable def Ztr : List (Nat × Lf) := []
theorem ZuV : RunIs Tryz.prog (Zk0) Ztq 0 (Ztr) Tryz.f115 Zl2 Zl3 (fun x => some (ZcO x)) := by
  intro x; kernel_rfl
theorem ZuW {w0 : World}  (hcs : ∀ x ∈ Zk0, SoundAt Tryz.prog w0 x.1 x.2) : SoundAt Tryz.prog w0 115 Zhz := by
  exact Za9 (Zak hcs (Zaq _ _) Tryz.func115 (by kernel_rfl) (by kernel_rfl) (S := 0) (fun w _ => Zal _) (fun _ => rfl) (ZuV)) fun _ _ => rfl
theorem ZuX {w0 : World}  : SoundAt Tryz.prog w0 115 Zhz :=
  ZuW (Zah (ZbD) ZaH)
abbrev Zj8 : Ag (List Int) := (.one (.ints .u64 5))
abbrev Zj9 : Pt (Bool) := .bool
def ZdG : Ct := tct Zj8 Zj9 fun x => ZaQ x
def Zjh : List (FuncId × Ct) := [(79, Zba)]
def ZqV : List Gv := []
noncomputable def ZqW : List (Nat × Lf) := []
theorem ZrV : RunIs Tryz.prog (Zjh) ZqV 0 (ZqW) Tryz.f55 Zj8 Zj9 (fun x => some (ZaQ x)) := by
  intro x; kernel_rfl
theorem ZrW {w0 : World}  (hcs : ∀ x ∈ Zjh, SoundAt Tryz.prog w0 x.1 x.2) : SoundAt Tryz.prog w0 55 ZdG := by
  exact Za9 (Zak hcs (Zaq _ _) Tryz.func55 (by kernel_rfl) (by kernel_rfl) (S := 0) (fun w _ => Zal _) (fun _ => rfl) (ZrV)) fun _ _ => rfl
theorem ZgW {w0 : World}  : SoundAt Tryz.prog w0 55 ZdG :=
  ZrW (Zah (ZbD) ZaH)
abbrev Zt9 : Ag ((Int × List Int × List Int)) := (.cons (.int .i64) (.cons (.ints .u64 5) (.one (.ints .u64 5))))
abbrev Zua : Pt (List Int) := (.ints .u64 5)
def ZgX : Ct := tct Zt9 Zua fun x => ZbC x.1 x.2.1 x.2.2
def ZrX : List (FuncId × Ct) := [(79, Zba)]
def ZBW : List Gv := []
noncomputable def ZBX : List (Nat × Lf) := []
theorem ZCB : RunIs Tryz.prog (ZrX) ZBW 0 (ZBX) Tryz.f57 Zt9 Zua (fun x => some (ZbC x.1 x.2.1 x.2.2)) := by
  intro x; kernel_rfl
theorem ZCC {w0 : World}  (hcs : ∀ x ∈ ZrX, SoundAt Tryz.prog w0 x.1 x.2) : SoundAt Tryz.prog w0 57 ZgX := by
  exact Za9 (Zak hcs (Zaq _ _) Tryz.func57 (by kernel_rfl) (by kernel_rfl) (S := 0) (fun w _ => Zal _) (fun _ => rfl) (ZCB)) fun _ _ => rfl
theorem ZnY {w0 : World}  : SoundAt Tryz.prog w0 57 ZgX :=
  ZCC (Zah (ZbD) ZaH)
abbrev Zqv : Ag (List Int) := (.one (.ints .u64 5))
abbrev Zqw : Pt (List Int) := (.ints .u64 5)
def Zep : Ct := tct Zqv Zqw fun x => ZaL x
def ZoB : List (FuncId × Ct) := [(57, ZgX), (58, ZcQ), (79, Zba)]
def Zyu : List Gv := []
noncomputable def Zyv : List (Nat × Lf) := []
theorem ZAl : RunIs Tryz.prog (ZoB) Zyu 0 (Zyv) Tryz.f59 Zqv Zqw (fun x => some (ZaL x)) := by
  intro x; kernel_rfl
theorem ZAm {w0 : World}  (hcs : ∀ x ∈ ZoB, SoundAt Tryz.prog w0 x.1 x.2) : SoundAt Tryz.prog w0 59 Zep := by
  exact Za9 (Zak hcs (Zaq _ _) Tryz.func59 (by kernel_rfl) (by kernel_rfl) (S := 0) (fun w _ => Zal _) (fun _ => rfl) (ZAl)) fun _ _ => rfl
theorem Zh5 {w0 : World}  : SoundAt Tryz.prog w0 59 Zep :=
  ZAm (Zah (ZnY) (Zah (Zd3) (Zah (ZbD) ZaH)))
abbrev Zwt : Ag (Int) := (.one (.int .i64))
abbrev Zwu : Pt (List Int) := (.ints .u64 5)
def Zgq : Ct := fct Zwt Zwu fun x => ZcB x
def Zub : List (FuncId × Ct) := []
def Zdn : List Gv := [⟨6, 143, (.rows 7 fun i => .ints .u64 5 (Zbe i))⟩]
noncomputable def ZCD : List (Nat × Lf) := []
theorem ZD9 : RunIs Tryz.prog (Zub) Zdn 0 (ZCD) Tryz.f56 Zwt Zwu (fun x => ZcB x) := by
  intro x; kernel_rfl
theorem ZEa {w0 : World}  (hcs : ∀ x ∈ Zub, SoundAt Tryz.prog w0 x.1 x.2) (hg : GlobOK Tryz.prog w0 Zdn) : SoundAt Tryz.prog w0 56 Zgq := by
  exact Zak hcs hg Tryz.func56 (by kernel_rfl) (by kernel_rfl) (S := 0) (fun w _ => Zal _) (fun _ => rfl) (ZD9)
theorem Zlx {w0 : World}  (Zbl : GlobOK Tryz.prog w0 Zdn) : SoundAt Tryz.prog w0 56 Zgq :=
  ZEa ZaH Zbl
abbrev ZoC : Ag ((List Int × List Int)) := (.cons (.ints .u64 5) (.one (.ints .u64 5)))
abbrev ZoD : Pt ((List Int × Bool)) := (.tup (.cons (.ints .u64 5) (.one .bool)))
def Ze3 (N : Nat) : Ct := fct ZoC ZoD fun x => ZdR N x.1 x.2
def Zm3 (N : Nat) : List (FuncId × Ct) := [(36, Zbz), (53, ZbV), (58, ZcQ), (59, Zep), (79, Zba), (105, (ZiM N))]
def Zcv : List Gv := [⟨6, 143, (.rows 7 fun i => .ints .u64 5 (Zbe i))⟩]
noncomputable def Zwv (N : Nat) : List (Nat × Lf) := []
theorem Zyw (N : Nat) : RunIs Tryz.prog (Zm3 N) Zcv 0 (Zwv N) Tryz.f52 ZoC ZoD (fun x => ZdR N x.1 x.2) := by
  intro x; kernel_rfl
theorem Zyx {w0 : World} (N : Nat)  (hcs : ∀ x ∈ Zm3 N, SoundAt Tryz.prog w0 x.1 x.2) (hg : GlobOK Tryz.prog w0 Zcv) : SoundAt Tryz.prog w0 52 (Ze3 N) := by
  exact Zak hcs hg Tryz.func52 (by kernel_rfl) (by kernel_rfl) (S := 0) (fun w _ => Zal _) (fun _ => rfl) (Zyw N)
theorem ZjK {w0 : World} (N : Nat)  (Za6 : GlobOK Tryz.prog w0 Zcv) : SoundAt Tryz.prog w0 52 (Ze3 N) :=
  Zyx N (Zah (ZbY) (Zah (ZcG) (Zah (Zd3) (Zah (Zh5) (Zah (ZbD) (Zah (Zyr N) ZaH)))))) Za6
abbrev Zl4 : Ag ((List Int × List Int × List Int × List Int)) := (.one (.agg (.cons (.ints .u64 5) (.cons (.ints .u64 5) (.cons (.ints .u64 5) (.one (.ints .u64 5)))))))
abbrev Zl5 : Pt ((List Int × List Int × List Int × List Int)) := (.agg (.cons (.ints .u64 5) (.cons (.ints .u64 5) (.cons (.ints .u64 5) (.one (.ints .u64 5))))))
def ZcT : Ct := tct Zl4 Zl5 fun x => Zas x
def Zk1 : List (FuncId × Ct) := []
def ZaD : List Gv := [⟨4, 26, (.ints .u64 5 [1, 0, 0, 0, 0])⟩]
noncomputable def Zts : List (Nat × Lf) := []
theorem ZuY : RunIs Tryz.prog (Zk1) ZaD 0 (Zts) Tryz.f34 Zl4 Zl5 (fun x => Zia x) := by
  intro x; kernel_rfl
theorem ZuZ {w0 : World}  (hcs : ∀ x ∈ Zk1, SoundAt Tryz.prog w0 x.1 x.2) (hg : GlobOK Tryz.prog w0 ZaD) : SoundAt Tryz.prog w0 34 ZcT := by
  exact Za9 (Zak hcs hg Tryz.func34 (by kernel_rfl) (by kernel_rfl) (S := 0) (fun w _ => Zal _) (fun _ => rfl) (ZuY)) fun _ _ => ZrJ _
theorem Zex {w0 : World}  (Zai : GlobOK Tryz.prog w0 ZaD) : SoundAt Tryz.prog w0 34 ZcT :=
  ZuZ ZaH Zai
abbrev ZDq : Ag ((List Int × List Int)) := (.cons (.ints .u64 5) (.one (.ints .u64 5)))
abbrev ZDr : Pt ((List Int × List Int × List Int × List Int)) := (.agg (.one (.agg (.cons (.ints .u64 5) (.cons (.ints .u64 5) (.cons (.ints .u64 5) (.one (.ints .u64 5))))))))
def Zu0 : Ct := fct ZDq ZDr fun x => ZAP x.1 x.2
def ZBY : List (FuncId × Ct) := [(36, Zbz)]
def ZfS : List Gv := [⟨4, 26, (.ints .u64 5 [1, 0, 0, 0, 0])⟩]
noncomputable def ZGE : List (Nat × Lf) := []
theorem ZIo : RunIs Tryz.prog (ZBY) ZfS 0 (ZGE) Tryz.f122 ZDq ZDr (fun x => ZAP x.1 x.2) := by
  intro x; kernel_rfl
theorem ZIp {w0 : World}  (hcs : ∀ x ∈ ZBY, SoundAt Tryz.prog w0 x.1 x.2) (hg : GlobOK Tryz.prog w0 ZfS) : SoundAt Tryz.prog w0 122 Zu0 := by
  exact Zak hcs hg Tryz.func122 (by kernel_rfl) (by kernel_rfl) (S := 0) (fun w _ => Zal _) (fun _ => rfl) (ZIo)
theorem ZIq {w0 : World}  (Zda : GlobOK Tryz.prog w0 ZfS) : SoundAt Tryz.prog w0 122 Zu0 :=
  ZIp (Zah (ZbY) ZaH) Zda
abbrev ZzT : Ag ((List Int × List Int × List Int × List Int)) := (.cons (.ints .u64 5) (.cons (.ints .u64 5) (.cons (.ints .u64 5) (.one (.ints .u64 5)))))
abbrev ZzU : Pt ((List Int × List Int × List Int × List Int)) := (.agg (.one (.agg (.cons (.ints .u64 5) (.cons (.ints .u64 5) (.cons (.ints .u64 5) (.one (.ints .u64 5))))))))
def Zly : Ct := fct ZzT ZzU fun x => ZlC x.1 x.2.1 x.2.2.1 x.2.2.2
def Zww : List (FuncId × Ct) := [(36, Zbz)]
def ZEb : List Gv := []
noncomputable def ZEc : List (Nat × Lf) := []
theorem ZFG : RunIs Tryz.prog (Zww) ZEb 0 (ZEc) Tryz.f38 ZzT ZzU (fun x => ZlC x.1 x.2.1 x.2.2.1 x.2.2.2) := by
  intro x; kernel_rfl
theorem ZFH {w0 : World}  (hcs : ∀ x ∈ Zww, SoundAt Tryz.prog w0 x.1 x.2) : SoundAt Tryz.prog w0 38 Zly := by
  exact Zak hcs (Zaq _ _) Tryz.func38 (by kernel_rfl) (by kernel_rfl) (S := 0) (fun w _ => Zal _) (fun _ => rfl) (ZFG)
theorem ZzV {w0 : World}  : SoundAt Tryz.prog w0 38 Zly :=
  ZFH (Zah (ZbY) ZaH)
abbrev ZoE : Ag (((List Int × List Int × List Int × List Int) × (List Int × List Int × List Int × List Int))) := (.cons (.agg (.one (.agg (.cons (.ints .u64 5) (.cons (.ints .u64 5) (.cons (.ints .u64 5) (.one (.ints .u64 5)))))))) (.one (.agg (.one (.agg (.cons (.ints .u64 5) (.cons (.ints .u64 5) (.cons (.ints .u64 5) (.one (.ints .u64 5))))))))))
abbrev ZoF : Pt ((List Int × List Int × List Int × List Int)) := (.agg (.one (.agg (.cons (.ints .u64 5) (.cons (.ints .u64 5) (.cons (.ints .u64 5) (.one (.ints .u64 5))))))))
def Zdu : Ct := fct ZoE ZoF fun x => ZaC x.1 x.2
def Zm4 : List (FuncId × Ct) := [(34, ZcT), (35, ZcP), (36, Zbz), (37, Zdi), (38, Zly)]
def Za7 : List Gv := [⟨0, 26, (.ints .u64 5 [1859910466990425, 932731440258426, 1072319116312658, 1815898335770999, 633789495995903])⟩]
noncomputable def Zwx : List (Nat × Lf) := []
theorem Zyy : RunIs Tryz.prog (Zm4) Za7 0 (Zwx) Tryz.f10 ZoE ZoF (fun x => ZaC x.1 x.2) := by
  intro x; kernel_rfl
theorem Zyz {w0 : World}  (hcs : ∀ x ∈ Zm4, SoundAt Tryz.prog w0 x.1 x.2) (hg : GlobOK Tryz.prog w0 Za7) : SoundAt Tryz.prog w0 10 Zdu := by
  exact Zak hcs hg Tryz.func10 (by kernel_rfl) (by kernel_rfl) (S := 0) (fun w _ => Zal _) (fun _ => rfl) (Zyy)
theorem ZfG {w0 : World}  (Zai : GlobOK Tryz.prog w0 ZaD) (Zav : GlobOK Tryz.prog w0 Za7) : SoundAt Tryz.prog w0 10 Zdu :=
  Zyz (Zah (Zex Zai) (Zah (Zd2) (Zah (ZbY) (Zah (ZeV) (Zah (ZzV) ZaH))))) Zav
abbrev ZoG : Ag ((List Int × List Int × List Int × List Int)) := (.one (.agg (.one (.agg (.cons (.ints .u64 5) (.cons (.ints .u64 5) (.cons (.ints .u64 5) (.one (.ints .u64 5)))))))))
abbrev ZoH : Pt ((List Int × List Int × List Int × List Int)) := (.agg (.one (.agg (.cons (.ints .u64 5) (.cons (.ints .u64 5) (.cons (.ints .u64 5) (.one (.ints .u64 5))))))))
def Ze4 : Ct := tct ZoG ZoH fun x => Za8 x
def Zm5 : List (FuncId × Ct) := [(34, ZcT), (58, ZcQ)]
def Zwy : List Gv := []
noncomputable def Zwz : List (Nat × Lf) := []
theorem ZyA : RunIs Tryz.prog (Zm5) Zwy 0 (Zwz) Tryz.f100 ZoG ZoH (fun x => some (Za8 x)) := by
  intro x; kernel_rfl
theorem ZyB {w0 : World}  (hcs : ∀ x ∈ Zm5, SoundAt Tryz.prog w0 x.1 x.2) : SoundAt Tryz.prog w0 100 Ze4 := by
  exact Za9 (Zak hcs (Zaq _ _) Tryz.func100 (by kernel_rfl) (by kernel_rfl) (S := 0) (fun w _ => Zal _) (fun _ => rfl) (ZyA)) fun _ _ => rfl
theorem ZjL {w0 : World}  (Zai : GlobOK Tryz.prog w0 ZaD) : SoundAt Tryz.prog w0 100 Ze4 :=
  ZyB (Zah (Zex Zai) (Zah (Zd3) ZaH))
abbrev ZoI : Ag (((List Int × List Int × List Int × List Int) × (List Int × List Int × List Int × List Int))) := (.cons (.agg (.one (.agg (.cons (.ints .u64 5) (.cons (.ints .u64 5) (.cons (.ints .u64 5) (.one (.ints .u64 5)))))))) (.one (.agg (.one (.agg (.cons (.ints .u64 5) (.cons (.ints .u64 5) (.cons (.ints .u64 5) (.one (.ints .u64 5))))))))))
abbrev ZoJ : Pt ((List Int × List Int × List Int × List Int)) := (.agg (.one (.agg (.cons (.ints .u64 5) (.cons (.ints .u64 5) (.cons (.ints .u64 5) (.one (.ints .u64 5))))))))
def ZiN : Ct := fct ZoI ZoJ fun x => Zfx x.1 x.2
def Zm6 : List (FuncId × Ct) := [(10, Zdu), (100, Ze4)]
def ZwA : List Gv := []
noncomputable def ZwB : List (Nat × Lf) := []
theorem ZyC : RunIs Tryz.prog (Zm6) ZwA 0 (ZwB) Tryz.f41 ZoI ZoJ (fun x => Zfx x.1 x.2) := by
  intro x; kernel_rfl
theorem ZyD {w0 : World}  (hcs : ∀ x ∈ Zm6, SoundAt Tryz.prog w0 x.1 x.2) : SoundAt Tryz.prog w0 41 ZiN := by
  exact Zak hcs (Zaq _ _) Tryz.func41 (by kernel_rfl) (by kernel_rfl) (S := 0) (fun w _ => Zal _) (fun _ => rfl) (ZyC)
theorem ZyE {w0 : World}  (Zai : GlobOK Tryz.prog w0 ZaD) (Zav : GlobOK Tryz.prog w0 Za7) : SoundAt Tryz.prog w0 41 ZiN :=
  ZyD (Zah (ZfG Zai Zav) (Zah (ZjL Zai) ZaH))
abbrev Zk2 : Ag ((List Int × List Int × List Int × List Int)) := (.one (.agg (.one (.agg (.cons (.ints .u64 5) (.cons (.ints .u64 5) (.cons (.ints .u64 5) (.one (.ints .u64 5)))))))))
abbrev Zk3 : Pt ((List Int × List Int × List Int × List Int)) := (.agg (.one (.agg (.cons (.ints .u64 5) (.cons (.ints .u64 5) (.cons (.ints .u64 5) (.one (.ints .u64 5))))))))
def Zdj : Ct := fct Zk2 Zk3 fun x => Zbt x
def Zka : List (FuncId × Ct) := [(34, ZcT), (35, ZcP), (37, Zdi), (38, Zly), (53, ZbV), (58, ZcQ)]
def ZrY : List Gv := []
noncomputable def ZrZ : List (Nat × Lf) := []
theorem Ztt : RunIs Tryz.prog (Zka) ZrY 0 (ZrZ) Tryz.f32 Zk2 Zk3 (fun x => Zbt x) := by
  intro x; kernel_rfl
theorem Ztu {w0 : World}  (hcs : ∀ x ∈ Zka, SoundAt Tryz.prog w0 x.1 x.2) : SoundAt Tryz.prog w0 32 Zdj := by
  exact Zak hcs (Zaq _ _) Tryz.func32 (by kernel_rfl) (by kernel_rfl) (S := 0) (fun w _ => Zal _) (fun _ => rfl) (Ztt)
theorem Zfq {w0 : World}  (Zai : GlobOK Tryz.prog w0 ZaD) : SoundAt Tryz.prog w0 32 Zdj :=
  Ztu (Zah (Zex Zai) (Zah (Zd2) (Zah (ZeV) (Zah (ZzV) (Zah (ZcG) (Zah (Zd3) ZaH))))))
abbrev Zm7 : Ag (((List Int × List Int × List Int × List Int) × (List Int × List Int × List Int × List Int))) := (.cons (.agg (.one (.agg (.cons (.ints .u64 5) (.cons (.ints .u64 5) (.cons (.ints .u64 5) (.one (.ints .u64 5)))))))) (.one (.agg (.one (.agg (.cons (.ints .u64 5) (.cons (.ints .u64 5) (.cons (.ints .u64 5) (.one (.ints .u64 5))))))))))
abbrev Zm8 : Pt (Bool) := .bool
def ZfT : Ct := fct Zm7 Zm8 fun x => Zcb x.1 x.2
def Zl6 : List (FuncId × Ct) := [(34, ZcT), (36, Zbz)]
def Zu1 : List Gv := []
noncomputable def Zu2 : List (Nat × Lf) := []
theorem ZwC : RunIs Tryz.prog (Zl6) Zu1 0 (Zu2) Tryz.f42 Zm7 Zm8 (fun x => Zcb x.1 x.2) := by
  intro x; kernel_rfl
theorem ZwD {w0 : World}  (hcs : ∀ x ∈ Zl6, SoundAt Tryz.prog w0 x.1 x.2) : SoundAt Tryz.prog w0 42 ZfT := by
  exact Zak hcs (Zaq _ _) Tryz.func42 (by kernel_rfl) (by kernel_rfl) (S := 0) (fun w _ => Zal _) (fun _ => rfl) (ZwC)
theorem Zm9 {w0 : World}  (Zai : GlobOK Tryz.prog w0 ZaD) : SoundAt Tryz.prog w0 42 ZfT :=
  ZwD (Zah (Zex Zai) (Zah (ZbY) ZaH))
abbrev Zk4 : Ag ((List Int × List Int × List Int × List Int)) := (.one (.agg (.one (.agg (.cons (.ints .u64 5) (.cons (.ints .u64 5) (.cons (.ints .u64 5) (.one (.ints .u64 5)))))))))
abbrev Zk5 : Pt ((List Int × List Int)) := (.tup (.cons (.ints .u64 5) (.one (.ints .u64 5))))
def ZdU (N : Nat) : Ct := fct Zk4 Zk5 fun x => Zb1 N x
def Zkb (N : Nat) : List (FuncId × Ct) := [(34, ZcT), (36, Zbz), (76, (Zfp N))]
def Zr0 : List Gv := []
noncomputable def Zr1 (N : Nat) : List (Nat × Lf) := []
theorem Ztv (N : Nat) : RunIs Tryz.prog (Zkb N) Zr0 0 (Zr1 N) Tryz.f39 Zk4 Zk5 (fun x => Zb1 N x) := by
  intro x; kernel_rfl
theorem Ztw {w0 : World} (N : Nat)  (hcs : ∀ x ∈ Zkb N, SoundAt Tryz.prog w0 x.1 x.2) : SoundAt Tryz.prog w0 39 (ZdU N) := by
  exact Zak hcs (Zaq _ _) Tryz.func39 (by kernel_rfl) (by kernel_rfl) (S := 0) (fun w _ => Zal _) (fun _ => rfl) (Ztv N)
theorem ZhA {w0 : World} (N : Nat)  (Zai : GlobOK Tryz.prog w0 ZaD) : SoundAt Tryz.prog w0 39 (ZdU N) :=
  Ztw N (Zah (Zex Zai) (Zah (ZbY) (Zah (Zl1 N) ZaH)))
abbrev Zna : Ag ((List Int × List Int)) := (.cons (.ints .u64 5) (.one (.ints .u64 5)))
abbrev Znb : Pt (((List Int × List Int × List Int × List Int) × Int)) := (.tup (.cons (.agg (.one (.agg (.cons (.ints .u64 5) (.cons (.ints .u64 5) (.cons (.ints .u64 5) (.one (.ints .u64 5)))))))) (.one (.int .i64))))
def ZfU : Ct := fct Zna Znb fun x => Zd0 x.1 x.2
def Zl7 : List (FuncId × Ct) := [(35, ZcP), (36, Zbz), (37, Zdi), (53, ZbV), (56, Zgq), (79, Zba), (122, Zu0)]
def ZcH : List Gv := [⟨4, 26, (.ints .u64 5 [1, 0, 0, 0, 0])⟩]
noncomputable def Zu3 : List (Nat × Lf) := []
theorem ZwE : RunIs Tryz.prog (Zl7) ZcH 0 (Zu3) Tryz.f77 Zna Znb (fun x => Zd0 x.1 x.2) := by
  intro x; kernel_rfl
theorem ZwF {w0 : World}  (hcs : ∀ x ∈ Zl7, SoundAt Tryz.prog w0 x.1 x.2) (hg : GlobOK Tryz.prog w0 ZcH) : SoundAt Tryz.prog w0 77 ZfU := by
  exact Zak hcs hg Tryz.func77 (by kernel_rfl) (by kernel_rfl) (S := 0) (fun w _ => Zal _) (fun _ => rfl) (ZwE)
theorem Znc {w0 : World}  (Zbl : GlobOK Tryz.prog w0 Zdn) (Zda : GlobOK Tryz.prog w0 ZfS) (ZbA : GlobOK Tryz.prog w0 ZcH) : SoundAt Tryz.prog w0 77 ZfU :=
  ZwF (Zah (Zd2) (Zah (ZbY) (Zah (ZeV) (Zah (ZcG) (Zah (Zlx Zbl) (Zah (ZbD) (Zah (ZIq Zda) ZaH))))))) ZbA
abbrev ZzW : Ag (Unit) := .nil
abbrev ZzX : Pt ((List Int × List Int × List Int × List Int)) := (.agg (.one (.agg (.cons (.ints .u64 5) (.cons (.ints .u64 5) (.cons (.ints .u64 5) (.one (.ints .u64 5))))))))
def Zlz : Ct := tct ZzW ZzX fun x => ZbN
def ZwG : List (FuncId × Ct) := []
def Ze5 : List Gv := [⟨9, 30, (.agg [(.agg [(.ints .u64 5 [1738742601995546, 1146398526822698, 2070867633025821, 562264141797630, 587772402128613]), (.ints .u64 5 [1801439850948184, 1351079888211148, 450359962737049, 900719925474099, 1801439850948198]), (.ints .u64 5 [1, 0, 0, 0, 0]), (.ints .u64 5 [1841354044333475, 16398895984059, 755974180946558, 900171276175154, 1821297809914039])])])⟩]
noncomputable def ZEd : List (Nat × Lf) := []
theorem ZFI : RunIs Tryz.prog (ZwG) Ze5 0 (ZEd) Tryz.f101 ZzW ZzX (fun x => some (ZbN)) := by
  intro x; kernel_rfl
theorem ZFJ {w0 : World}  (hcs : ∀ x ∈ ZwG, SoundAt Tryz.prog w0 x.1 x.2) (hg : GlobOK Tryz.prog w0 Ze5) : SoundAt Tryz.prog w0 101 Zlz := by
  exact Za9 (Zak hcs hg Tryz.func101 (by kernel_rfl) (by kernel_rfl) (S := 0) (fun w _ => Zal _) (fun _ => rfl) (ZFI)) fun _ _ => rfl
theorem ZzY {w0 : World}  (Zc7 : GlobOK Tryz.prog w0 Ze5) : SoundAt Tryz.prog w0 101 Zlz :=
  ZFJ ZaH Zc7
abbrev Ziw : Ag (((List Int × List Int × List Int × List Int) × List Int)) := (.cons (.agg (.one (.agg (.cons (.ints .u64 5) (.cons (.ints .u64 5) (.cons (.ints .u64 5) (.one (.ints .u64 5)))))))) (.one (.ints .u8 32)))
abbrev Zix : Pt ((List Int × List Int × List Int × List Int)) := (.agg (.one (.agg (.cons (.ints .u64 5) (.cons (.ints .u64 5) (.cons (.ints .u64 5) (.one (.ints .u64 5))))))))
def ZdO (N : Nat) : Ct := fct Ziw Zix fun x => Zcu N x.1 x.2
def Zcr (N : Nat) : List (FuncId × Ct) := [(10, Zdu), (32, Zdj)]
def Zc3 : List Gv := []
def Zey : Fm ((Unit × Unit × Unit × Unit × Int)) (((List Int × List Int × List Int × List Int) × List Int × Unit)) := ⟨(.cons 2 (.lit (.ptr 0 [] 30)) (.cons 3 (.lit (.ptr 1 [] 58)) (.cons 4 (.lit (.ptr 2 [] 30)) (.cons 5 (.lit (.int .i64 (-1))) (.one 6 (.int .i64)))))), (.cons 0 (.agg (.one (.agg (.cons (.ints .u64 5) (.cons (.ints .u64 5) (.cons (.ints .u64 5) (.one (.ints .u64 5)))))))) (.cons 1 (.ints .u8 32) (.one 2 (.lit (.agg [(.agg [(.ints .u64 5 [0, 0, 0, 0, 0]), (.ints .u64 5 [0, 0, 0, 0, 0]), (.ints .u64 5 [0, 0, 0, 0, 0]), (.ints .u64 5 [0, 0, 0, 0, 0])])])))))⟩
def Zez : Fm ((Unit × Unit × Unit × Int)) (((List Int × List Int × List Int × List Int) × List Int × Unit)) := ⟨(.cons 2 (.lit (.ptr 0 [] 30)) (.cons 3 (.lit (.ptr 1 [] 58)) (.cons 4 (.lit (.ptr 2 [] 30)) (.one 5 (.int .i64))))), (.cons 0 (.agg (.one (.agg (.cons (.ints .u64 5) (.cons (.ints .u64 5) (.cons (.ints .u64 5) (.one (.ints .u64 5)))))))) (.cons 1 (.ints .u8 32) (.one 2 (.lit (.agg [(.agg [(.ints .u64 5 [0, 0, 0, 0, 0]), (.ints .u64 5 [0, 0, 0, 0, 0]), (.ints .u64 5 [0, 0, 0, 0, 0]), (.ints .u64 5 [0, 0, 0, 0, 0])])])))))⟩
def ZeA : Fm (Unit) (Unit) := ⟨.nil, .nil⟩
def ZeB : Fm ((Unit × Unit × Unit × Unit × Int)) ((List Int × Unit × ((List Int × List Int × List Int × List Int) × (List Int × List Int × List Int × List Int) × (List Int × List Int × List Int × List Int) × (List Int × List Int × List Int × List Int) × (List Int × List Int × List Int × List Int) × (List Int × List Int × List Int × List Int) × (List Int × List Int × List Int × List Int) × (List Int × List Int × List Int × List Int) × (List Int × List Int × List Int × List Int) × (List Int × List Int × List Int × List Int) × (List Int × List Int × List Int × List Int) × (List Int × List Int × List Int × List Int) × (List Int × List Int × List Int × List Int) × (List Int × List Int × List Int × List Int) × (List Int × List Int × List Int × List Int) × (List Int × List Int × List Int × List Int)) × (List Int × List Int × List Int × List Int))) := ⟨(.cons 3 (.lit (.ptr 1 [] 58)) (.cons 4 (.lit (.ptr 2 [] 30)) (.cons 9 (.lit (.ptr 5 [] 171)) (.cons 11 (.lit (.ptr 219 [] 30)) (.one 12 (.int .i64)))))), (.cons 1 (.ints .u8 32) (.cons 2 (.lit (.agg [(.agg [(.ints .u64 5 [0, 0, 0, 0, 0]), (.ints .u64 5 [0, 0, 0, 0, 0]), (.ints .u64 5 [0, 0, 0, 0, 0]), (.ints .u64 5 [0, 0, 0, 0, 0])])])) (.cons 5 (.agg (.cons (.agg (.one (.agg (.cons (.ints .u64 5) (.cons (.ints .u64 5) (.cons (.ints .u64 5) (.one (.ints .u64 5)))))))) (.cons (.agg (.one (.agg (.cons (.ints .u64 5) (.cons (.ints .u64 5) (.cons (.ints .u64 5) (.one (.ints .u64 5)))))))) (.cons (.agg (.one (.agg (.cons (.ints .u64 5) (.cons (.ints .u64 5) (.cons (.ints .u64 5) (.one (.ints .u64 5)))))))) (.cons (.agg (.one (.agg (.cons (.ints .u64 5) (.cons (.ints .u64 5) (.cons (.ints .u64 5) (.one (.ints .u64 5)))))))) (.cons (.agg (.one (.agg (.cons (.ints .u64 5) (.cons (.ints .u64 5) (.cons (.ints .u64 5) (.one (.ints .u64 5)))))))) (.cons (.agg (.one (.agg (.cons (.ints .u64 5) (.cons (.ints .u64 5) (.cons (.ints .u64 5) (.one (.ints .u64 5)))))))) (.cons (.agg (.one (.agg (.cons (.ints .u64 5) (.cons (.ints .u64 5) (.cons (.ints .u64 5) (.one (.ints .u64 5)))))))) (.cons (.agg (.one (.agg (.cons (.ints .u64 5) (.cons (.ints .u64 5) (.cons (.ints .u64 5) (.one (.ints .u64 5)))))))) (.cons (.agg (.one (.agg (.cons (.ints .u64 5) (.cons (.ints .u64 5) (.cons (.ints .u64 5) (.one (.ints .u64 5)))))))) (.cons (.agg (.one (.agg (.cons (.ints .u64 5) (.cons (.ints .u64 5) (.cons (.ints .u64 5) (.one (.ints .u64 5)))))))) (.cons (.agg (.one (.agg (.cons (.ints .u64 5) (.cons (.ints .u64 5) (.cons (.ints .u64 5) (.one (.ints .u64 5)))))))) (.cons (.agg (.one (.agg (.cons (.ints .u64 5) (.cons (.ints .u64 5) (.cons (.ints .u64 5) (.one (.ints .u64 5)))))))) (.cons (.agg (.one (.agg (.cons (.ints .u64 5) (.cons (.ints .u64 5) (.cons (.ints .u64 5) (.one (.ints .u64 5)))))))) (.cons (.agg (.one (.agg (.cons (.ints .u64 5) (.cons (.ints .u64 5) (.cons (.ints .u64 5) (.one (.ints .u64 5)))))))) (.cons (.agg (.one (.agg (.cons (.ints .u64 5) (.cons (.ints .u64 5) (.cons (.ints .u64 5) (.one (.ints .u64 5)))))))) (.one (.agg (.one (.agg (.cons (.ints .u64 5) (.cons (.ints .u64 5) (.cons (.ints .u64 5) (.one (.ints .u64 5))))))))))))))))))))))))) (.one 219 (.agg (.one (.agg (.cons (.ints .u64 5) (.cons (.ints .u64 5) (.cons (.ints .u64 5) (.one (.ints .u64 5))))))))))))⟩
def ZeC : Fm ((Unit × Unit)) ((Unit × (List Int × List Int × List Int × List Int))) := ⟨(.cons 4 (.lit (.ptr 2 [] 30)) (.one 11 (.lit (.ptr 219 [] 30)))), (.cons 2 (.lit (.agg [(.agg [(.ints .u64 5 [0, 0, 0, 0, 0]), (.ints .u64 5 [0, 0, 0, 0, 0]), (.ints .u64 5 [0, 0, 0, 0, 0]), (.ints .u64 5 [0, 0, 0, 0, 0])])])) (.one 219 (.agg (.one (.agg (.cons (.ints .u64 5) (.cons (.ints .u64 5) (.cons (.ints .u64 5) (.one (.ints .u64 5))))))))))⟩
def ZeD : Fm (Unit) (Unit) := ⟨.nil, .nil⟩
noncomputable def Zc4 (N : Nat) : List (Nat × Lf) := [(0, loopCt Zey Zez ZeA 5 (Zbk N) N), (6, loopCt ZeB ZeC ZeD 222 (ZbK N) N)]
theorem Zkc (N : Nat) : StepIs Tryz.prog (cxOf Tryz.f95 (Zcr N) Zc3 0) (Zc4 N) Tryz.f95 0 5 Zey Zez ZeA (Zbk N) := by
  intro v; kernel_rfl
theorem Zkd (N : Nat) : StepIs Tryz.prog (cxOf Tryz.f95 (Zcr N) Zc3 0) (Zc4 N) Tryz.f95 6 222 ZeB ZeC ZeD (ZbK N) := by
  intro v; kernel_rfl
theorem ZoK (N : Nat) : RunIs Tryz.prog (Zcr N) Zc3 0 (Zc4 N) Tryz.f95 Ziw Zix (fun x => Zcu N x.1 x.2) := by
  intro x; kernel_rfl
theorem ZoL {w0 : World} (N : Nat)  (hcs : ∀ x ∈ Zcr N, SoundAt Tryz.prog w0 x.1 x.2) : SoundAt Tryz.prog w0 95 (ZdO N) := by
  have L0 : ∀ w, RowKit.Below w0.heap.size w0 w → LoopOK Tryz.prog (cxOf Tryz.f95 (Zcr N) Zc3 0) w 0 (.loop (loopBody Tryz.f95 0)) (loopCt Zey Zez ZeA 5 (Zbk N) N) :=
    Zbu hcs (ls := Zc4 N) (n := 100) (by kernel_rfl) (Zkc N) N fun w hw => ZaG (lp_no (by kernel_rfl) (lp_no (by kernel_rfl) ZcL))
  have L6 : ∀ w, RowKit.Below w0.heap.size w0 w → LoopOK Tryz.prog (cxOf Tryz.f95 (Zcr N) Zc3 0) w 6 (.loop (loopBody Tryz.f95 6)) (loopCt ZeB ZeC ZeD 222 (ZbK N) N) :=
    Zbu hcs (ls := Zc4 N) (n := 100) (by kernel_rfl) (Zkd N) N fun w hw => ZaG (lp_no (by kernel_rfl) (lp_no (by kernel_rfl) ZcL))
  exact Zak hcs (Zaq _ _) Tryz.func95 (by kernel_rfl) (by kernel_rfl) (S := 0) (fun w hw => ZaG (ZfD (L0 w hw) (by kernel_rfl) (ZfD (L6 w hw) (by kernel_rfl) ZcL))) (fun _ => rfl) (ZoK N)
theorem Ziy {w0 : World} (N : Nat)  (Zai : GlobOK Tryz.prog w0 ZaD) (Zav : GlobOK Tryz.prog w0 Za7) : SoundAt Tryz.prog w0 95 (ZdO N) :=
  ZoL N (Zah (ZfG Zai Zav) (Zah (Zfq Zai) ZaH))
abbrev Znd : Ag ((List Int × List Int × List Int × List Int)) := (.one (.agg (.one (.agg (.cons (.ints .u64 5) (.cons (.ints .u64 5) (.cons (.ints .u64 5) (.one (.ints .u64 5)))))))))
abbrev Zne : Pt (Bool) := .bool
def Zid (N : Nat) : Ct := fct Znd Zne fun x => ZeT N x
def Zl8 (N : Nat) : List (FuncId × Ct) := [(42, ZfT), (95, (ZdO N))]
def Zdb : List Gv := [⟨3, 58, (.ints .u8 32 [237, 211, 245, 92, 26, 99, 18, 88, 214, 156, 247, 162, 222, 249, 222, 20, 0, 0, 0, 0, 0, 0, 0, 0, 0, 0, 0, 0, 0, 0, 0, 16])⟩]
noncomputable def Zu4 (N : Nat) : List (Nat × Lf) := []
theorem ZwH (N : Nat) : RunIs Tryz.prog (Zl8 N) Zdb 0 (Zu4 N) Tryz.f33 Znd Zne (fun x => ZeT N x) := by
  intro x; kernel_rfl
theorem ZwI {w0 : World} (N : Nat)  (hcs : ∀ x ∈ Zl8 N, SoundAt Tryz.prog w0 x.1 x.2) (hg : GlobOK Tryz.prog w0 Zdb) : SoundAt Tryz.prog w0 33 (Zid N) := by
  exact Zak hcs hg Tryz.func33 (by kernel_rfl) (by kernel_rfl) (S := 0) (fun w _ => Zal _) (fun _ => rfl) (ZwH N)
theorem ZwJ {w0 : World} (N : Nat)  (Zai : GlobOK Tryz.prog w0 ZaD) (Zav : GlobOK Tryz.prog w0 Za7) (Zb6 : GlobOK Tryz.prog w0 Zdb) : SoundAt Tryz.prog w0 33 (Zid N) :=
  ZwI N (Zah (Zm9 Zai) (Zah (Ziy N Zai Zav) ZaH)) Zb6
abbrev Zji : Ag ((List Int × List Int × List Int × List Int)) := (.one (.agg (.one (.agg (.cons (.ints .u64 5) (.cons (.ints .u64 5) (.cons (.ints .u64 5) (.one (.ints .u64 5)))))))))
abbrev Zjj : Pt (List Int) := (.ints .u8 32)
def ZfV (N : Nat) : Ct := fct Zji Zjj fun x => Zbn N x
def Zee (N : Nat) : List (FuncId × Ct) := [(39, (ZdU N)), (55, ZdG), (60, Zfo)]
def ZfW : List Gv := []
noncomputable def ZiO (N : Nat) : List (FuncId × Inl) := ((91, inlOf Tryz.prog (Zee N) ZfW 0 100 [] Tryz.f91) :: [])
theorem ZnZ (N : Nat) : InlAll Tryz.prog (Zee N) ZfW 0 100 (ZiO N) := ⟨⟨Tryz.f91, Tryz.func91, by kernel_rfl, by kernel_rfl, rfl⟩, trivial⟩
noncomputable def ZpX (N : Nat) : List (Nat × Lf) := []
theorem ZqX (N : Nat) : RunIs Tryz.prog (Zee N) ZfW 0 (ZpX N) Tryz.f26 Zji Zjj (fun x => Zbn N x) (fun g => lkI g (ZiO N)) := by
  intro x; kernel_rfl
theorem ZqY {w0 : World} (N : Nat)  (hcs : ∀ x ∈ Zee N, SoundAt Tryz.prog w0 x.1 x.2) : SoundAt Tryz.prog w0 26 (ZfV N) := by
  exact Zus hcs (Zaq _ _) (ZnZ N) Tryz.func26 (by kernel_rfl) (by kernel_rfl) (S := 0) (fun w _ => Zal _) (fun _ => rfl) (ZqX N)
theorem ZqZ {w0 : World} (N : Nat)  (Zai : GlobOK Tryz.prog w0 ZaD) : SoundAt Tryz.prog w0 26 (ZfV N) :=
  ZqY N (Zah (ZhA N Zai) (Zah (ZgW) (Zah (ZlY) ZaH)))
abbrev Zr2 : Ag (Int) := (.one (.int .i64))
abbrev Zr3 : Pt ((List Int × List Int × List Int × List Int)) := (.agg (.one (.agg (.cons (.ints .u64 5) (.cons (.ints .u64 5) (.cons (.ints .u64 5) (.one (.ints .u64 5))))))))
def Zh6 : Ct := fct Zr2 Zr3 fun x => Zb9 x
def Zqx : List (FuncId × Ct) := []
def Zd4 : List Gv := [⟨1, 87, (.agg [(.agg [(.agg [(.ints .u64 5 [0, 0, 0, 0, 0]), (.ints .u64 5 [0, 0, 0, 0, 0]), (.ints .u64 5 [0, 0, 0, 0, 0]), (.ints .u64 5 [0, 0, 0, 0, 0])])]), (.agg [(.agg [(.ints .u64 5 [358744748052810, 1691584618240980, 977650209285361, 1429865912637724, 560044844278676]), (.ints .u64 5 [2166873539340326, 1778179147085316, 1886209374839743, 1223329526802818, 105300633354275]), (.ints .u64 5 [1, 0, 0, 0, 0]), (.ints .u64 5 [803472979097708, 393902981724766, 1158077081819914, 574391322974006, 336294660666841])])]), (.agg [(.agg [(.ints .u64 5 [1718705420411056, 234908883556509, 2233514472574048, 2117202627021982, 765476049583133]), (.ints .u64 5 [0, 0, 0, 0, 0]), (.ints .u64 5 [1, 0, 0, 0, 0]), (.ints .u64 5 [0, 0, 0, 0, 0])])]), (.agg [(.agg [(.ints .u64 5 [358744748052810, 1691584618240980, 977650209285361, 1429865912637724, 560044844278676]), (.ints .u64 5 [84926274344903, 473620666599931, 365590438845504, 1028470286882429, 2146499180330972]), (.ints .u64 5 [1, 0, 0, 0, 0]), (.ints .u64 5 [1448326834587521, 1857896831960481, 1093722731865333, 1677408490711241, 1915505153018406])])]), (.agg [(.agg [(.ints .u64 5 [0, 0, 0, 0, 0]), (.ints .u64 5 [2251799813685228, 2251799813685247, 2251799813685247, 2251799813685247, 2251799813685247]), (.ints .u64 5 [1, 0, 0, 0, 0]), (.ints .u64 5 [0, 0, 0, 0, 0])])]), (.agg [(.agg [(.ints .u64 5 [1893055065632419, 560215195444267, 1274149604399886, 821933901047523, 1691754969406571]), (.ints .u64 5 [84926274344903, 473620666599931, 365590438845504, 1028470286882429, 2146499180330972]), (.ints .u64 5 [1, 0, 0, 0, 0]), (.ints .u64 5 [803472979097708, 393902981724766, 1158077081819914, 574391322974006, 336294660666841])])]), (.agg [(.agg [(.ints .u64 5 [533094393274173, 2016890930128738, 18285341111199, 134597186663265, 1486323764102114]), (.ints .u64 5 [0, 0, 0, 0, 0]), (.ints .u64 5 [1, 0, 0, 0, 0]), (.ints .u64 5 [0, 0, 0, 0, 0])])]), (.agg [(.agg [(.ints .u64 5 [1893055065632419, 560215195444267, 1274149604399886, 821933901047523, 1691754969406571]), (.ints .u64 5 [2166873539340326, 1778179147085316, 1886209374839743, 1223329526802818, 105300633354275]), (.ints .u64 5 [1, 0, 0, 0, 0]), (.ints .u64 5 [1448326834587521, 1857896831960481, 1093722731865333, 1677408490711241, 1915505153018406])])])])⟩]
noncomputable def ZAn : List (Nat × Lf) := []
theorem ZBZ : RunIs Tryz.prog (Zqx) Zd4 0 (ZAn) Tryz.f11 Zr2 Zr3 (fun x => Zb9 x) := by
  intro x; kernel_rfl
theorem ZB0 {w0 : World}  (hcs : ∀ x ∈ Zqx, SoundAt Tryz.prog w0 x.1 x.2) (hg : GlobOK Tryz.prog w0 Zd4) : SoundAt Tryz.prog w0 11 Zh6 := by
  exact Zak hcs hg Tryz.func11 (by kernel_rfl) (by kernel_rfl) (S := 0) (fun w _ => Zal _) (fun _ => rfl) (ZBZ)
theorem Zr4 {w0 : World}  (ZcK : GlobOK Tryz.prog w0 Zd4) : SoundAt Tryz.prog w0 11 Zh6 :=
  ZB0 ZaH ZcK
abbrev ZzZ : Ag (Bool) := (.one .bool)
abbrev Zz0 : Pt (Int) := (.int .i64)
def ZlA : Ct := tct ZzZ Zz0 fun x => Zcd x
def ZwK : List (FuncId × Ct) := []
def ZEe : List Gv := []
noncomputable def ZEf : List (Nat × Lf) := []
theorem ZFK : RunIs Tryz.prog (ZwK) ZEe 0 (ZEf) Tryz.f54 ZzZ Zz0 (fun x => ZrK x) := by
  intro x; kernel_rfl
theorem ZFL {w0 : World}  (hcs : ∀ x ∈ ZwK, SoundAt Tryz.prog w0 x.1 x.2) : SoundAt Tryz.prog w0 54 ZlA := by
  exact Za9 (Zak hcs (Zaq _ _) Tryz.func54 (by kernel_rfl) (by kernel_rfl) (S := 0) (fun w _ => Zal _) (fun _ => rfl) (ZFK)) fun _ _ => ZCs _
theorem Zz1 {w0 : World}  : SoundAt Tryz.prog w0 54 ZlA :=
  ZFL ZaH
abbrev Zz2 : Ag (Unit) := .nil
abbrev Zz3 : Pt ((List Int × List Int × List Int × List Int)) := (.agg (.one (.agg (.one (.agg (.cons (.ints .u64 5) (.cons (.ints .u64 5) (.cons (.ints .u64 5) (.one (.ints .u64 5))))))))))
def ZpY : Ct := tct Zz2 Zz3 fun x => ZbB
def ZwL : List (FuncId × Ct) := [(101, Zlz)]
def ZEg : List Gv := []
noncomputable def ZEh : List (Nat × Lf) := []
theorem ZFM : RunIs Tryz.prog (ZwL) ZEg 0 (ZEh) Tryz.f43 Zz2 Zz3 (fun x => some (ZbB)) := by
  intro x; kernel_rfl
theorem ZFN {w0 : World}  (hcs : ∀ x ∈ ZwL, SoundAt Tryz.prog w0 x.1 x.2) : SoundAt Tryz.prog w0 43 ZpY := by
  exact Za9 (Zak hcs (Zaq _ _) Tryz.func43 (by kernel_rfl) (by kernel_rfl) (S := 0) (fun w _ => Zal _) (fun _ => rfl) (ZFM)) fun _ _ => rfl
theorem ZFO {w0 : World}  (Zc7 : GlobOK Tryz.prog w0 Ze5) : SoundAt Tryz.prog w0 43 ZpY :=
  ZFN (Zah (ZzY Zc7) ZaH)
abbrev Zk6 : Ag ((List Int × List Int × List Int × List Int)) := (.one (.agg (.one (.agg (.one (.agg (.cons (.ints .u64 5) (.cons (.ints .u64 5) (.cons (.ints .u64 5) (.one (.ints .u64 5)))))))))))
abbrev Zk7 : Pt (List Int) := (.ints .u8 32)
def Ze6 (N : Nat) : Ct := fct Zk6 Zk7 fun x => ZaR N x
def Zke (N : Nat) : List (FuncId × Ct) := [(35, ZcP), (36, Zbz), (37, Zdi), (39, (ZdU N)), (51, ZfF), (52, (Ze3 N)), (53, ZbV), (54, ZlA), (55, ZdG), (56, Zgq), (57, ZgX), (58, ZcQ), (59, Zep), (60, Zfo)]
def Zr5 : List Gv := []
noncomputable def Zr6 (N : Nat) : List (Nat × Lf) := []
theorem Ztx (N : Nat) : RunIs Tryz.prog (Zke N) Zr5 0 (Zr6 N) Tryz.f16 Zk6 Zk7 (fun x => ZaR N x) := by
  intro x; kernel_rfl
theorem Zty {w0 : World} (N : Nat)  (hcs : ∀ x ∈ Zke N, SoundAt Tryz.prog w0 x.1 x.2) : SoundAt Tryz.prog w0 16 (Ze6 N) := by
  exact Zak hcs (Zaq _ _) Tryz.func16 (by kernel_rfl) (by kernel_rfl) (S := 0) (fun w _ => Zal _) (fun _ => rfl) (Ztx N)
theorem Zk8 {w0 : World} (N : Nat)  (Zai : GlobOK Tryz.prog w0 ZaD) (Za6 : GlobOK Tryz.prog w0 Zcv) (Zbl : GlobOK Tryz.prog w0 Zdn) : SoundAt Tryz.prog w0 16 (Ze6 N) :=
  Zty N (Zah (Zd2) (Zah (ZbY) (Zah (ZeV) (Zah (ZhA N Zai) (Zah (ZkI) (Zah (ZjK N Za6) (Zah (ZcG) (Zah (Zz1) (Zah (ZgW) (Zah (Zlx Zbl) (Zah (ZnY) (Zah (Zd3) (Zah (Zh5) (Zah (ZlY) ZaH))))))))))))))
abbrev Zr7 : Ag (List Int) := (.one (.ints .u64 5))
abbrev Zr8 : Pt ((List Int × List Int × List Int × List Int)) := (.agg (.one (.agg (.one (.agg (.cons (.ints .u64 5) (.cons (.ints .u64 5) (.cons (.ints .u64 5) (.one (.ints .u64 5))))))))))
def Zh7 (N : Nat) : Ct := fct Zr7 Zr8 fun x => ZeY N x
def Zqy (N : Nat) : List (FuncId × Ct) := [(35, ZcP), (36, Zbz), (37, Zdi), (51, ZfF), (52, (Ze3 N)), (53, ZbV), (54, ZlA), (56, Zgq), (57, ZgX), (58, ZcQ), (59, Zep), (76, (Zfp N)), (77, ZfU)]
def ZAo : List Gv := []
noncomputable def ZAp (N : Nat) : List (Nat × Lf) := []
theorem ZB1 (N : Nat) : RunIs Tryz.prog (Zqy N) ZAo 0 (ZAp N) Tryz.f18 Zr7 Zr8 (fun x => ZeY N x) := by
  intro x; kernel_rfl
theorem ZB2 {w0 : World} (N : Nat)  (hcs : ∀ x ∈ Zqy N, SoundAt Tryz.prog w0 x.1 x.2) : SoundAt Tryz.prog w0 18 (Zh7 N) := by
  exact Zak hcs (Zaq _ _) Tryz.func18 (by kernel_rfl) (by kernel_rfl) (S := 0) (fun w _ => Zal _) (fun _ => rfl) (ZB1 N)
theorem Zr9 {w0 : World} (N : Nat)  (Za6 : GlobOK Tryz.prog w0 Zcv) (Zbl : GlobOK Tryz.prog w0 Zdn) (Zda : GlobOK Tryz.prog w0 ZfS) (ZbA : GlobOK Tryz.prog w0 ZcH) : SoundAt Tryz.prog w0 18 (Zh7 N) :=
  ZB2 N (Zah (Zd2) (Zah (ZbY) (Zah (ZeV) (Zah (ZkI) (Zah (ZjK N Za6) (Zah (ZcG) (Zah (Zz1) (Zah (Zlx Zbl) (Zah (ZnY) (Zah (Zd3) (Zah (Zh5) (Zah (Zl1 N) (Zah (Znc Zbl Zda ZbA) ZaH)))))))))))))
abbrev ZoM : Ag (((List Int × List Int × List Int × List Int) × (List Int × List Int × List Int × List Int))) := (.cons (.agg (.one (.agg (.one (.agg (.cons (.ints .u64 5) (.cons (.ints .u64 5) (.cons (.ints .u64 5) (.one (.ints .u64 5)))))))))) (.one (.agg (.one (.agg (.one (.agg (.cons (.ints .u64 5) (.cons (.ints .u64 5) (.cons (.ints .u64 5) (.one (.ints .u64 5))))))))))))
abbrev ZoN : Pt ((List Int × List Int × List Int × List Int)) := (.agg (.one (.agg (.one (.agg (.cons (.ints .u64 5) (.cons (.ints .u64 5) (.cons (.ints .u64 5) (.one (.ints .u64 5))))))))))
def Ze7 : Ct := fct ZoM ZoN fun x => ZcA x.1 x.2
def Znf : List (FuncId × Ct) := [(10, Zdu)]
def ZwM : List Gv := []
noncomputable def ZwN : List (Nat × Lf) := []
theorem ZyF : RunIs Tryz.prog (Znf) ZwM 0 (ZwN) Tryz.f20 ZoM ZoN (fun x => ZcA x.1 x.2) := by
  intro x; kernel_rfl
theorem ZyG {w0 : World}  (hcs : ∀ x ∈ Znf, SoundAt Tryz.prog w0 x.1 x.2) : SoundAt Tryz.prog w0 20 Ze7 := by
  exact Zak hcs (Zaq _ _) Tryz.func20 (by kernel_rfl) (by kernel_rfl) (S := 0) (fun w _ => Zal _) (fun _ => rfl) (ZyF)
theorem ZjM {w0 : World}  (Zai : GlobOK Tryz.prog w0 ZaD) (Zav : GlobOK Tryz.prog w0 Za7) : SoundAt Tryz.prog w0 20 Ze7 :=
  ZyG (Zah (ZfG Zai Zav) ZaH)
abbrev ZB3 : Ag (List Int) := (.one (.ints .u8 64))
abbrev ZB4 : Pt ((List Int × List Int × List Int × List Int)) := (.agg (.one (.agg (.one (.agg (.cons (.ints .u64 5) (.cons (.ints .u64 5) (.cons (.ints .u64 5) (.one (.ints .u64 5))))))))))
def Zsa (N : Nat) : Ct := fct ZB3 ZB4 fun x => Zry N x
def Zz4 (N : Nat) : List (FuncId × Ct) := [(18, (Zh7 N)), (19, ZlV), (20, Ze7)]
def ZFP : List Gv := []
noncomputable def ZFQ (N : Nat) : List (Nat × Lf) := []
theorem ZGF (N : Nat) : RunIs Tryz.prog (Zz4 N) ZFP 0 (ZFQ N) Tryz.f5 ZB3 ZB4 (fun x => Zry N x) := by
  intro x; kernel_rfl
theorem ZGG {w0 : World} (N : Nat)  (hcs : ∀ x ∈ Zz4 N, SoundAt Tryz.prog w0 x.1 x.2) : SoundAt Tryz.prog w0 5 (Zsa N) := by
  exact Zak hcs (Zaq _ _) Tryz.func5 (by kernel_rfl) (by kernel_rfl) (S := 0) (fun w _ => Zal _) (fun _ => rfl) (ZGF N)
theorem ZGH {w0 : World} (N : Nat)  (Za6 : GlobOK Tryz.prog w0 Zcv) (Zbl : GlobOK Tryz.prog w0 Zdn) (Zda : GlobOK Tryz.prog w0 ZfS) (ZbA : GlobOK Tryz.prog w0 ZcH) (Zai : GlobOK Tryz.prog w0 ZaD) (Zav : GlobOK Tryz.prog w0 Za7) : SoundAt Tryz.prog w0 5 (Zsa N) :=
  ZGG N (Zah (Zr9 N Za6 Zbl Zda ZbA) (Zah (ZCA) (Zah (ZjM Zai Zav) ZaH)))
abbrev ZoO : Ag ((List Int × List Int × List Int × List Int)) := (.one (.agg (.one (.agg (.one (.agg (.cons (.ints .u64 5) (.cons (.ints .u64 5) (.cons (.ints .u64 5) (.one (.ints .u64 5)))))))))))
abbrev ZoP : Pt ((List Int × List Int × List Int × List Int)) := (.agg (.one (.agg (.one (.agg (.cons (.ints .u64 5) (.cons (.ints .u64 5) (.cons (.ints .u64 5) (.one (.ints .u64 5))))))))))
def ZiP : Ct := tct ZoO ZoP fun x => Zeu x
def Zng : List (FuncId × Ct) := [(100, Ze4)]
def ZwO : List Gv := []
noncomputable def ZwP : List (Nat × Lf) := []
theorem ZyH : RunIs Tryz.prog (Zng) ZwO 0 (ZwP) Tryz.f62 ZoO ZoP (fun x => some (Zeu x)) := by
  intro x; kernel_rfl
theorem ZyI {w0 : World}  (hcs : ∀ x ∈ Zng, SoundAt Tryz.prog w0 x.1 x.2) : SoundAt Tryz.prog w0 62 ZiP := by
  exact Za9 (Zak hcs (Zaq _ _) Tryz.func62 (by kernel_rfl) (by kernel_rfl) (S := 0) (fun w _ => Zal _) (fun _ => rfl) (ZyH)) fun _ _ => rfl
theorem ZyJ {w0 : World}  (Zai : GlobOK Tryz.prog w0 ZaD) : SoundAt Tryz.prog w0 62 ZiP :=
  ZyI (Zah (ZjL Zai) ZaH)
abbrev Zk9 : Ag ((List Int × List Int × List Int × List Int)) := (.one (.agg (.one (.agg (.one (.agg (.cons (.ints .u64 5) (.cons (.ints .u64 5) (.cons (.ints .u64 5) (.one (.ints .u64 5)))))))))))
abbrev Zla : Pt ((List Int × List Int × List Int × List Int)) := (.agg (.one (.agg (.one (.agg (.cons (.ints .u64 5) (.cons (.ints .u64 5) (.cons (.ints .u64 5) (.one (.ints .u64 5))))))))))
def ZgY : Ct := fct Zk9 Zla fun x => ZeZ x
def Zkf : List (FuncId × Ct) := [(32, Zdj)]
def Zsb : List Gv := []
noncomputable def Zsc : List (Nat × Lf) := []
theorem Ztz : RunIs Tryz.prog (Zkf) Zsb 0 (Zsc) Tryz.f64 Zk9 Zla (fun x => ZeZ x) := by
  intro x; kernel_rfl
theorem ZtA {w0 : World}  (hcs : ∀ x ∈ Zkf, SoundAt Tryz.prog w0 x.1 x.2) : SoundAt Tryz.prog w0 64 ZgY := by
  exact Zak hcs (Zaq _ _) Tryz.func64 (by kernel_rfl) (by kernel_rfl) (S := 0) (fun w _ => Zal _) (fun _ => rfl) (Ztz)
theorem ZtB {w0 : World}  (Zai : GlobOK Tryz.prog w0 ZaD) : SoundAt Tryz.prog w0 64 ZgY :=
  ZtA (Zah (Zfq Zai) ZaH)
abbrev Znh : Ag (((List Int × List Int × List Int × List Int) × (List Int × List Int × List Int × List Int))) := (.cons (.agg (.one (.agg (.one (.agg (.cons (.ints .u64 5) (.cons (.ints .u64 5) (.cons (.ints .u64 5) (.one (.ints .u64 5)))))))))) (.one (.agg (.one (.agg (.one (.agg (.cons (.ints .u64 5) (.cons (.ints .u64 5) (.cons (.ints .u64 5) (.one (.ints .u64 5))))))))))))
abbrev Zni : Pt (Bool) := .bool
def Zie : Ct := fct Znh Zni fun x => ZdZ x.1 x.2
def Zl9 : List (FuncId × Ct) := [(32, Zdj), (41, ZiN), (42, ZfT)]
def Zu5 : List Gv := []
noncomputable def Zu6 : List (Nat × Lf) := []
theorem ZwQ : RunIs Tryz.prog (Zl9) Zu5 0 (Zu6) Tryz.f13 Znh Zni (fun x => ZdZ x.1 x.2) := by
  intro x; kernel_rfl
theorem ZwR {w0 : World}  (hcs : ∀ x ∈ Zl9, SoundAt Tryz.prog w0 x.1 x.2) : SoundAt Tryz.prog w0 13 Zie := by
  exact Zak hcs (Zaq _ _) Tryz.func13 (by kernel_rfl) (by kernel_rfl) (S := 0) (fun w _ => Zal _) (fun _ => rfl) (ZwQ)
theorem ZwS {w0 : World}  (Zai : GlobOK Tryz.prog w0 ZaD) (Zav : GlobOK Tryz.prog w0 Za7) : SoundAt Tryz.prog w0 13 Zie :=
  ZwR (Zah (Zfq Zai) (Zah (ZyE Zai Zav) (Zah (Zm9 Zai) ZaH)))
abbrev Zlb : Ag (((List Int × List Int × List Int × List Int) × List Int)) := (.cons (.agg (.one (.agg (.one (.agg (.cons (.ints .u64 5) (.cons (.ints .u64 5) (.cons (.ints .u64 5) (.one (.ints .u64 5)))))))))) (.one (.ints .u8 32)))
abbrev Zlc : Pt (((List Int × List Int × List Int × List Int) × Int)) := (.tup (.cons (.agg (.one (.agg (.one (.agg (.cons (.ints .u64 5) (.cons (.ints .u64 5) (.cons (.ints .u64 5) (.one (.ints .u64 5)))))))))) (.one (.int .i64))))
def ZgZ (N : Nat) : Ct := fct Zlb Zlc fun x => Zb0 N x.1 x.2
def Zkg (N : Nat) : List (FuncId × Ct) := [(35, ZcP), (36, Zbz), (37, Zdi), (51, ZfF), (52, (Ze3 N)), (53, ZbV), (55, ZdG), (56, Zgq), (58, ZcQ), (59, Zep), (77, ZfU), (114, ZlU), (115, Zhz)]
def Zsd : List Gv := []
noncomputable def Zse (N : Nat) : List (Nat × Lf) := []
theorem ZtC (N : Nat) : RunIs Tryz.prog (Zkg N) Zsd 0 (Zse N) Tryz.f70 Zlb Zlc (fun x => Zb0 N x.1 x.2) := by
  intro x; kernel_rfl
theorem ZtD {w0 : World} (N : Nat)  (hcs : ∀ x ∈ Zkg N, SoundAt Tryz.prog w0 x.1 x.2) : SoundAt Tryz.prog w0 70 (ZgZ N) := by
  exact Zak hcs (Zaq _ _) Tryz.func70 (by kernel_rfl) (by kernel_rfl) (S := 0) (fun w _ => Zal _) (fun _ => rfl) (ZtC N)
theorem ZtE {w0 : World} (N : Nat)  (Za6 : GlobOK Tryz.prog w0 Zcv) (Zbl : GlobOK Tryz.prog w0 Zdn) (Zda : GlobOK Tryz.prog w0 ZfS) (ZbA : GlobOK Tryz.prog w0 ZcH) : SoundAt Tryz.prog w0 70 (ZgZ N) :=
  ZtD N (Zah (Zd2) (Zah (ZbY) (Zah (ZeV) (Zah (ZkI) (Zah (ZjK N Za6) (Zah (ZcG) (Zah (ZgW) (Zah (Zlx Zbl) (Zah (Zd3) (Zah (Zh5) (Zah (Znc Zbl Zda ZbA) (Zah (ZCx) (Zah (ZuX) ZaH)))))))))))))
abbrev ZoQ : Ag ((List Int × List Int)) := (.cons (.ints .i64 10) (.one (.ints .i64 10)))
abbrev ZoR : Pt (Bool) := .bool
def ZiQ : Ct := tct ZoQ ZoR fun x => Zdq x.1 x.2
def Znj : List (FuncId × Ct) := []
def ZwT : List Gv := []
noncomputable def ZwU : List (Nat × Lf) := []
theorem ZyK : RunIs Tryz.prog (Znj) ZwT 0 (ZwU) Tryz.f142 ZoQ ZoR (fun x => ZjG x.1 x.2) := by
  intro x; kernel_rfl
theorem ZyL {w0 : World}  (hcs : ∀ x ∈ Znj, SoundAt Tryz.prog w0 x.1 x.2) : SoundAt Tryz.prog w0 142 ZiQ := by
  exact Za9 (Zak hcs (Zaq _ _) Tryz.func142 (by kernel_rfl) (by kernel_rfl) (S := 0) (fun w _ => Zal _) (fun _ => rfl) (ZyK)) fun _ _ => ZuA _ _
theorem ZyM {w0 : World}  : SoundAt Tryz.prog w0 142 ZiQ :=
  ZyL ZaH
abbrev ZoS : Ag ((List Int × List Int)) := (.cons (.ints .i64 10) (.one (.ints .i64 10)))
abbrev ZoT : Pt (List Int) := (.ints .i64 10)
def ZgD : Ct := tct ZoS ZoT fun x => Zcm x.1 x.2
def Znk : List (FuncId × Ct) := []
def ZwV : List Gv := []
noncomputable def ZwW : List (Nat × Lf) := []
theorem ZyN : RunIs Tryz.prog (Znk) ZwV 0 (ZwW) Tryz.f124 ZoS ZoT (fun x => some (Zcm x.1 x.2)) := by
  intro x; kernel_rfl
theorem ZyO {w0 : World}  (hcs : ∀ x ∈ Znk, SoundAt Tryz.prog w0 x.1 x.2) : SoundAt Tryz.prog w0 124 ZgD := by
  exact Za9 (Zak hcs (Zaq _ _) Tryz.func124 (by kernel_rfl) (by kernel_rfl) (S := 0) (fun w _ => Zal _) (fun _ => rfl) (ZyN)) fun _ _ => rfl
theorem ZoU {w0 : World}  : SoundAt Tryz.prog w0 124 ZgD :=
  ZyO ZaH
abbrev ZoV : Ag (List Int) := (.one (.ints .i64 20))
abbrev ZoW : Pt (List Int) := (.ints .i64 10)
def Zdv (N : Nat) : Ct := fct ZoV ZoW fun x => ZbS N x
def ZgE (N : Nat) : List (FuncId × Ct) := [(124, ZgD), (142, ZiQ)]
def Zar : List Gv := [⟨7, 35, (.ints .i64 10 [67108845, 67108863, 67108863, 67108863, 67108863, 67108863, 67108863, 67108863, 67108863, 2097151])⟩]
def ZhB : Fm ((Unit × Int × Unit × Bool)) ((Unit × Unit × List Int)) := ⟨(.cons 2 (.lit (.ptr 2 [] 35)) (.cons 3 (.int .i64) (.cons 5 (.lit (.ptr 387 [] 35)) (.one 7 .bool)))), (.cons 0 (.lit (.ints .i64 10 [67108845, 67108863, 67108863, 67108863, 67108863, 67108863, 67108863, 67108863, 67108863, 2097151])) (.cons 2 (.lit (.ints .i64 10 [0, 0, 0, 0, 0, 0, 0, 0, 0, 0])) (.one 387 (.ints .i64 10))))⟩
def ZhC : Fm ((Unit × Unit)) ((Unit × Unit × List Int)) := ⟨(.cons 2 (.lit (.ptr 2 [] 35)) (.one 5 (.lit (.ptr 387 [] 35)))), (.cons 0 (.lit (.ints .i64 10 [67108845, 67108863, 67108863, 67108863, 67108863, 67108863, 67108863, 67108863, 67108863, 2097151])) (.cons 2 (.lit (.ints .i64 10 [0, 0, 0, 0, 0, 0, 0, 0, 0, 0])) (.one 387 (.ints .i64 10))))⟩
def ZhD : Fm (Unit) (Unit) := ⟨.nil, .nil⟩
noncomputable def ZiR (N : Nat) : List (Nat × Lf) := [(4, loopCt ZhB ZhC ZhD 563 (ZbO N) N)]
theorem ZpZ (N : Nat) : StepIs Tryz.prog (cxOf Tryz.f104 (ZgE N) Zar 0) (ZiR N) Tryz.f104 4 563 ZhB ZhC ZhD (ZbO N) := by
  intro v; kernel_rfl
theorem ZyP (N : Nat) : RunIs Tryz.prog (ZgE N) Zar 0 (ZiR N) Tryz.f104 ZoV ZoW (fun x => ZbS N x) := by
  intro x; kernel_rfl
theorem ZyQ {w0 : World} (N : Nat)  (hcs : ∀ x ∈ ZgE N, SoundAt Tryz.prog w0 x.1 x.2) (hg : GlobOK Tryz.prog w0 Zar) : SoundAt Tryz.prog w0 104 (Zdv N) := by
  have L4 : ∀ w, RowKit.Below w0.heap.size w0 w → LoopOK Tryz.prog (cxOf Tryz.f104 (ZgE N) Zar 0) w 4 (.loop (loopBody Tryz.f104 4)) (loopCt ZhB ZhC ZhD 563 (ZbO N) N) :=
    Zbu hcs (ls := ZiR N) (n := 100) (by kernel_rfl) (ZpZ N) N fun w hw => ZaG (lp_no (by kernel_rfl) ZcL)
  exact Zak hcs hg Tryz.func104 (by kernel_rfl) (by kernel_rfl) (S := 0) (fun w hw => ZaG (ZfD (L4 w hw) (by kernel_rfl) ZcL)) (fun _ => rfl) (ZyP N)
theorem ZfH {w0 : World} (N : Nat)  (Zae : GlobOK Tryz.prog w0 Zar) : SoundAt Tryz.prog w0 104 (Zdv N) :=
  ZyQ N (Zah (ZoU) (Zah (ZyM) ZaH)) Zae
abbrev Zuc : Ag (List Int) := (.one (.ints .u64 5))
abbrev Zud : Pt (List Int) := (.ints .i64 10)
def Zma (N : Nat) : Ct := fct Zuc Zud fun x => Zj5 N x
def ZfI (N : Nat) : List (FuncId × Ct) := [(104, (Zdv N))]
def Zg0 : List Gv := []
def ZjN : Fm ((Unit × Unit × Unit × Int × Int)) ((List Int × Unit × List Int)) := ⟨(.cons 1 (.lit (.ptr 0 [] 25)) (.cons 2 (.lit (.ptr 1 [] 35)) (.cons 3 (.lit (.ptr 2 [] 141)) (.cons 4 (.int .i64) (.one 5 (.int .i64)))))), (.cons 0 (.ints .u64 5) (.cons 1 (.lit (.ints .i64 10 [0, 0, 0, 0, 0, 0, 0, 0, 0, 0])) (.one 2 (.ints .i64 20))))⟩
def ZjO : Fm ((Unit × Unit × Unit × Int)) ((List Int × Unit × List Int)) := ⟨(.cons 1 (.lit (.ptr 0 [] 25)) (.cons 2 (.lit (.ptr 1 [] 35)) (.cons 3 (.lit (.ptr 2 [] 141)) (.one 4 (.int .i64))))), (.cons 0 (.ints .u64 5) (.cons 1 (.lit (.ints .i64 10 [0, 0, 0, 0, 0, 0, 0, 0, 0, 0])) (.one 2 (.ints .i64 20))))⟩
def ZjP : Fm (Unit) (Unit) := ⟨.nil, .nil⟩
def ZjQ : Fm ((Unit × Unit × Unit × Int)) ((List Int × Unit × List Int)) := ⟨(.cons 1 (.lit (.ptr 0 [] 25)) (.cons 2 (.lit (.ptr 1 [] 35)) (.cons 3 (.lit (.ptr 2 [] 141)) (.one 4 (.int .i64))))), (.cons 0 (.ints .u64 5) (.cons 1 (.lit (.ints .i64 10 [0, 0, 0, 0, 0, 0, 0, 0, 0, 0])) (.one 2 (.ints .i64 20))))⟩
def ZjR : Fm ((Unit × Unit)) ((Unit × List Int)) := ⟨(.cons 2 (.lit (.ptr 1 [] 35)) (.one 3 (.lit (.ptr 2 [] 141)))), (.cons 1 (.lit (.ints .i64 10 [0, 0, 0, 0, 0, 0, 0, 0, 0, 0])) (.one 2 (.ints .i64 20)))⟩
def ZjS : Fm (Unit) (Unit) := ⟨.nil, .nil⟩
noncomputable def Zg1 (N : Nat) : List (Nat × Lf) := [(2, loopCt ZjN ZjO ZjP 7 (Zew N) N), (0, loopCt ZjQ ZjR ZjS 4 (Zdr N) N)]
theorem ZtF (N : Nat) : StepIs Tryz.prog (cxOf Tryz.f69 (ZfI N) Zg0 0) (Zg1 N) Tryz.f69 2 7 ZjN ZjO ZjP (Zew N) := by
  intro v; kernel_rfl
theorem ZtG (N : Nat) : StepIs Tryz.prog (cxOf Tryz.f69 (ZfI N) Zg0 0) (Zg1 N) Tryz.f69 0 4 ZjQ ZjR ZjS (Zdr N) := by
  intro v; kernel_rfl
theorem ZCE (N : Nat) : RunIs Tryz.prog (ZfI N) Zg0 0 (Zg1 N) Tryz.f69 Zuc Zud (fun x => Zj5 N x) := by
  intro x; kernel_rfl
theorem ZCF {w0 : World} (N : Nat)  (hcs : ∀ x ∈ ZfI N, SoundAt Tryz.prog w0 x.1 x.2) : SoundAt Tryz.prog w0 69 (Zma N) := by
  have L2 : ∀ w, RowKit.Below w0.heap.size w0 w → LoopOK Tryz.prog (cxOf Tryz.f69 (ZfI N) Zg0 0) w 2 (.loop (loopBody Tryz.f69 2)) (loopCt ZjN ZjO ZjP 7 (Zew N) N) :=
    Zbu hcs (ls := Zg1 N) (n := 100) (by kernel_rfl) (ZtF N) N fun w hw => ZaG (lp_no (by kernel_rfl) (lp_no (by kernel_rfl) ZcL))
  have L0 : ∀ w, RowKit.Below w0.heap.size w0 w → LoopOK Tryz.prog (cxOf Tryz.f69 (ZfI N) Zg0 0) w 0 (.loop (loopBody Tryz.f69 0)) (loopCt ZjQ ZjR ZjS 4 (Zdr N) N) :=
    Zbu hcs (ls := Zg1 N) (n := 100) (by kernel_rfl) (ZtG N) N fun w hw => ZaG (ZfD (L2 w hw) (by kernel_rfl) (lp_no (by kernel_rfl) ZcL))
  exact Zak hcs (Zaq _ _) Tryz.func69 (by kernel_rfl) (by kernel_rfl) (S := 0) (fun w hw => ZaG (ZfD (L2 w hw) (by kernel_rfl) (ZfD (L0 w hw) (by kernel_rfl) ZcL))) (fun _ => rfl) (ZCE N)
theorem ZCG {w0 : World} (N : Nat)  (Zae : GlobOK Tryz.prog w0 Zar) : SoundAt Tryz.prog w0 69 (Zma N) :=
  ZCF N (Zah (ZfH N Zae) ZaH)
abbrev ZoX : Ag (Int) := (.one (.int .u64))
abbrev ZoY : Pt (List Int) := (.ints .i64 10)
def ZgF (N : Nat) : Ct := fct ZoX ZoY fun x => Zaf N x
def Znl (N : Nat) : List (FuncId × Ct) := [(104, (Zdv N))]
def ZwX : List Gv := []
noncomputable def ZwY (N : Nat) : List (Nat × Lf) := []
theorem ZyR (N : Nat) : RunIs Tryz.prog (Znl N) ZwX 0 (ZwY N) Tryz.f140 ZoX ZoY (fun x => Zaf N x) := by
  intro x; kernel_rfl
theorem ZyS {w0 : World} (N : Nat)  (hcs : ∀ x ∈ Znl N, SoundAt Tryz.prog w0 x.1 x.2) : SoundAt Tryz.prog w0 140 (ZgF N) := by
  exact Zak hcs (Zaq _ _) Tryz.func140 (by kernel_rfl) (by kernel_rfl) (S := 0) (fun w _ => Zal _) (fun _ => rfl) (ZyR N)
theorem ZoZ {w0 : World} (N : Nat)  (Zae : GlobOK Tryz.prog w0 Zar) : SoundAt Tryz.prog w0 140 (ZgF N) :=
  ZyS N (Zah (ZfH N Zae) ZaH)
abbrev Zo0 : Ag ((List Int × List Int)) := (.cons (.ints .i64 10) (.one (.ints .i64 10)))
abbrev Zo1 : Pt (List Int) := (.ints .i64 10)
def Zce (N : Nat) : Ct := fct Zo0 Zo1 fun x => Zac N x.1 x.2
def Znm (N : Nat) : List (FuncId × Ct) := [(104, (Zdv N))]
def ZwZ : List Gv := []
noncomputable def Zw0 (N : Nat) : List (Nat × Lf) := []
theorem ZyT (N : Nat) : RunIs Tryz.prog (Znm N) ZwZ 0 (Zw0 N) Tryz.f47 Zo0 Zo1 (fun x => Zac N x.1 x.2) := by
  intro x; kernel_rfl
theorem ZyU {w0 : World} (N : Nat)  (hcs : ∀ x ∈ Znm N, SoundAt Tryz.prog w0 x.1 x.2) : SoundAt Tryz.prog w0 47 (Zce N) := by
  exact Zak hcs (Zaq _ _) Tryz.func47 (by kernel_rfl) (by kernel_rfl) (S := 0) (fun w _ => Zal _) (fun _ => rfl) (ZyT N)
theorem Zdk {w0 : World} (N : Nat)  (Zae : GlobOK Tryz.prog w0 Zar) : SoundAt Tryz.prog w0 47 (Zce N) :=
  ZyU N (Zah (ZfH N Zae) ZaH)
abbrev Zo2 : Ag (List Int) := (.one (.ints .i64 10))
abbrev Zo3 : Pt (List Int) := (.ints .i64 10)
def Zcw : Ct := tct Zo2 Zo3 fun x => Zax x
def Znn : List (FuncId × Ct) := [(124, ZgD)]
def Zay : List Gv := [⟨5, 35, (.ints .i64 10 [0, 0, 0, 0, 0, 0, 0, 0, 0, 0])⟩, ⟨7, 35, (.ints .i64 10 [67108845, 67108863, 67108863, 67108863, 67108863, 67108863, 67108863, 67108863, 67108863, 2097151])⟩]
noncomputable def Zw1 : List (Nat × Lf) := []
theorem ZyV : RunIs Tryz.prog (Znn) Zay 0 (Zw1) Tryz.f83 Zo2 Zo3 (fun x => ZjH x) := by
  intro x; kernel_rfl
theorem ZyW {w0 : World}  (hcs : ∀ x ∈ Znn, SoundAt Tryz.prog w0 x.1 x.2) (hg : GlobOK Tryz.prog w0 Zay) : SoundAt Tryz.prog w0 83 Zcw := by
  exact Za9 (Zak hcs hg Tryz.func83 (by kernel_rfl) (by kernel_rfl) (S := 0) (fun w _ => Zal _) (fun _ => rfl) (ZyV)) fun _ _ => ZuB _
theorem ZdL {w0 : World}  (Zag : GlobOK Tryz.prog w0 Zay) : SoundAt Tryz.prog w0 83 Zcw :=
  ZyW (Zah (ZoU) ZaH) Zag
abbrev Zo4 : Ag ((List Int × List Int)) := (.cons (.ints .i64 10) (.one (.ints .i64 10)))
abbrev Zo5 : Pt (List Int) := (.ints .i64 10)
def Zcx (N : Nat) : Ct := fct Zo4 Zo5 fun x => ZaI N x.1 x.2
def Zno (N : Nat) : List (FuncId × Ct) := [(47, (Zce N)), (83, Zcw)]
def Zw2 : List Gv := []
noncomputable def Zw3 (N : Nat) : List (Nat × Lf) := []
theorem ZyX (N : Nat) : RunIs Tryz.prog (Zno N) Zw2 0 (Zw3 N) Tryz.f46 Zo4 Zo5 (fun x => ZaI N x.1 x.2) := by
  intro x; kernel_rfl
theorem ZyY {w0 : World} (N : Nat)  (hcs : ∀ x ∈ Zno N, SoundAt Tryz.prog w0 x.1 x.2) : SoundAt Tryz.prog w0 46 (Zcx N) := by
  exact Zak hcs (Zaq _ _) Tryz.func46 (by kernel_rfl) (by kernel_rfl) (S := 0) (fun w _ => Zal _) (fun _ => rfl) (ZyX N)
theorem ZdM {w0 : World} (N : Nat)  (Zae : GlobOK Tryz.prog w0 Zar) (Zag : GlobOK Tryz.prog w0 Zay) : SoundAt Tryz.prog w0 46 (Zcx N) :=
  ZyY N (Zah (Zdk N Zae) (Zah (ZdL Zag) ZaH))
abbrev Zo6 : Ag ((List Int × List Int)) := (.cons (.ints .i64 10) (.one (.ints .i64 10)))
abbrev Zo7 : Pt (List Int) := (.ints .i64 10)
def Zbd (N : Nat) : Ct := fct Zo6 Zo7 fun x => Zab N x.1 x.2
def Znp (N : Nat) : List (FuncId × Ct) := [(104, (Zdv N))]
def Zw4 : List Gv := []
noncomputable def Zw5 (N : Nat) : List (Nat × Lf) := []
theorem ZyZ (N : Nat) : RunIs Tryz.prog (Znp N) Zw4 0 (Zw5 N) Tryz.f82 Zo6 Zo7 (fun x => Zab N x.1 x.2) := by
  intro x; kernel_rfl
theorem Zy0 {w0 : World} (N : Nat)  (hcs : ∀ x ∈ Znp N, SoundAt Tryz.prog w0 x.1 x.2) : SoundAt Tryz.prog w0 82 (Zbd N) := by
  exact Zak hcs (Zaq _ _) Tryz.func82 (by kernel_rfl) (by kernel_rfl) (S := 0) (fun w _ => Zal _) (fun _ => rfl) (ZyZ N)
theorem ZbE {w0 : World} (N : Nat)  (Zae : GlobOK Tryz.prog w0 Zar) : SoundAt Tryz.prog w0 82 (Zbd N) :=
  Zy0 N (Zah (ZfH N Zae) ZaH)
abbrev ZgG : Ag ((List Int × Int)) := (.cons (.ints .i64 10) (.one (.int .i64)))
abbrev ZgH : Pt (List Int) := (.ints .i64 10)
def Zif (N : Nat) : Ct := fct ZgG ZgH fun x => Zgk N x.1 x.2
def Zo8 (rec : List Int → Int → Option (List Int)) (N : Nat) : Ct := fct ZgG ZgH fun x => ZdS rec N x.1 x.2
def ZdX (rec : List Int → Int → Option (List Int)) (N : Nat) : List (FuncId × Ct) := [(82, (Zbd N)), (125, (fct (.cons (.ints .i64 10) (.one (.int .i64))) (.ints .i64 10) fun x => rec x.1 x.2))]
def ZfJ : List Gv := []
def Zg2 : Fm ((Int × Unit × Unit × Unit × Unit × Int)) ((List Int × Unit × List Int × List Int)) := ⟨(.cons 1 (.int .i64) (.cons 2 (.lit (.ptr 0 [] 35)) (.cons 4 (.lit (.ptr 1 [] 35)) (.cons 5 (.lit (.ptr 8 [] 35)) (.cons 6 (.lit (.ptr 11 [] 35)) (.one 7 (.int .i64))))))), (.cons 0 (.ints .i64 10) (.cons 1 (.lit (.ints .i64 10 [0, 0, 0, 0, 0, 0, 0, 0, 0, 0])) (.cons 8 (.ints .i64 10) (.one 11 (.ints .i64 10)))))⟩
def Zg3 : Fm ((Int × Unit × Unit × Unit × Unit)) ((List Int × Unit × List Int × List Int)) := ⟨(.cons 1 (.int .i64) (.cons 2 (.lit (.ptr 0 [] 35)) (.cons 4 (.lit (.ptr 1 [] 35)) (.cons 5 (.lit (.ptr 8 [] 35)) (.one 6 (.lit (.ptr 11 [] 35))))))), (.cons 0 (.ints .i64 10) (.cons 1 (.lit (.ints .i64 10 [0, 0, 0, 0, 0, 0, 0, 0, 0, 0])) (.cons 8 (.ints .i64 10) (.one 11 (.ints .i64 10)))))⟩
def Zg4 : Fm (Unit) (Unit) := ⟨.nil, .nil⟩
noncomputable def ZfK (rec : List Int → Int → Option (List Int)) (N : Nat) : List (Nat × Lf) := [(0, loopCt Zg2 Zg3 Zg4 14 (ZcD N) N)]
theorem Zo9 (rec : List Int → Int → Option (List Int)) (N : Nat) : StepIs Tryz.prog (cxOf Tryz.f125 (ZdX rec N) ZfJ 0) (ZfK rec N) Tryz.f125 0 14 Zg2 Zg3 Zg4 (ZcD N) := by
  intro v; kernel_rfl
theorem Zp0 (rec : List Int → Int → Option (List Int)) (N : Nat) : RunIs Tryz.prog (ZdX rec N) ZfJ 0 (ZfK rec N) Tryz.f125 ZgG ZgH (fun x => ZdS rec N x.1 x.2) := by
  intro x; kernel_rfl
theorem Zp1 {w0 : World} (rec : List Int → Int → Option (List Int)) (N : Nat)  (hcs : ∀ x ∈ ZdX rec N, SoundAt Tryz.prog w0 x.1 x.2) : SoundAt Tryz.prog w0 125 (Zo8 rec N) := by
  have L0 : ∀ w, RowKit.Below w0.heap.size w0 w → LoopOK Tryz.prog (cxOf Tryz.f125 (ZdX rec N) ZfJ 0) w 0 (.loop (loopBody Tryz.f125 0)) (loopCt Zg2 Zg3 Zg4 14 (ZcD N) N) :=
    Zbu hcs (ls := ZfK rec N) (n := 100) (by kernel_rfl) (Zo9 rec N) N fun w hw => ZaG (lp_no (by kernel_rfl) ZcL)
  exact Zak hcs (Zaq _ _) Tryz.func125 (by kernel_rfl) (by kernel_rfl) (S := 0) (fun w hw => ZaG (ZfD (L0 w hw) (by kernel_rfl) ZcL)) (fun _ => rfl) (Zp0 rec N)
theorem Znq {w0 : World} (N : Nat)  (Zae : GlobOK Tryz.prog w0 Zar) : SoundAt Tryz.prog w0 125 (Zif N) := by
  have h : ∀ m, SoundAt Tryz.prog w0 125 (fct ZgG ZgH fun x => ZdJ N m x.1 x.2) := by
    intro m
    induction m with
    | zero => exact ZGh
    | succ m ih => exact Zp1 (ZdJ N m) N (Zah (ZbE N Zae) (Zah ih ZaH))
  exact h N
abbrev Zld : Ag (List Int) := (.one (.ints .i64 10))
abbrev Zle : Pt (List Int) := (.ints .i64 10)
def Zb2 (N : Nat) : Ct := fct Zld Zle fun x => Za3 N x
def Zkh (N : Nat) : List (FuncId × Ct) := [(82, (Zbd N)), (125, (Zif N))]
def Zsf : List Gv := []
noncomputable def Zsg (N : Nat) : List (Nat × Lf) := []
theorem ZtH (N : Nat) : RunIs Tryz.prog (Zkh N) Zsf 0 (Zsg N) Tryz.f86 Zld Zle (fun x => Za3 N x) := by
  intro x; kernel_rfl
theorem ZtI {w0 : World} (N : Nat)  (hcs : ∀ x ∈ Zkh N, SoundAt Tryz.prog w0 x.1 x.2) : SoundAt Tryz.prog w0 86 (Zb2 N) := by
  exact Zak hcs (Zaq _ _) Tryz.func86 (by kernel_rfl) (by kernel_rfl) (S := 0) (fun w _ => Zal _) (fun _ => rfl) (ZtH N)
theorem ZcU {w0 : World} (N : Nat)  (Zae : GlobOK Tryz.prog w0 Zar) : SoundAt Tryz.prog w0 86 (Zb2 N) :=
  ZtI N (Zah (ZbE N Zae) (Zah (Znq N Zae) ZaH))
abbrev Zjk : Ag (List Int) := (.one (.ints .i64 10))
abbrev Zjl : Pt (Bool) := .bool
def Zdw : Ct := tct Zjk Zjl fun x => Zbc x
def ZiS : List (FuncId × Ct) := []
def Zp2 : List Gv := []
noncomputable def Zp3 : List (Nat × Lf) := []
theorem Zq0 : RunIs Tryz.prog (ZiS) Zp2 0 (Zp3) Tryz.f94 Zjk Zjl (fun x => some (Zbc x)) := by
  intro x; kernel_rfl
theorem Zq1 {w0 : World}  (hcs : ∀ x ∈ ZiS, SoundAt Tryz.prog w0 x.1 x.2) : SoundAt Tryz.prog w0 94 Zdw := by
  exact Za9 (Zak hcs (Zaq _ _) Tryz.func94 (by kernel_rfl) (by kernel_rfl) (S := 0) (fun w _ => Zal _) (fun _ => rfl) (Zq0)) fun _ _ => rfl
theorem Zgr {w0 : World}  : SoundAt Tryz.prog w0 94 Zdw :=
  Zq1 ZaH
abbrev Zpa : Ag (List Int) := (.one (.ints .i64 10))
abbrev Zpb : Pt (List Int) := (.ints .i64 10)
def Ze8 : Ct := tct Zpa Zpb fun x => Zbm x
def Znr : List (FuncId × Ct) := [(83, Zcw)]
def Zw6 : List Gv := []
noncomputable def Zw7 : List (Nat × Lf) := []
theorem Zy1 : RunIs Tryz.prog (Znr) Zw6 0 (Zw7) Tryz.f84 Zpa Zpb (fun x => ZjI x) := by
  intro x; kernel_rfl
theorem Zy2 {w0 : World}  (hcs : ∀ x ∈ Znr, SoundAt Tryz.prog w0 x.1 x.2) : SoundAt Tryz.prog w0 84 Ze8 := by
  exact Za9 (Zak hcs (Zaq _ _) Tryz.func84 (by kernel_rfl) (by kernel_rfl) (S := 0) (fun w _ => Zal _) (fun _ => rfl) (Zy1)) fun _ _ => ZuC _
theorem ZjT {w0 : World}  (Zag : GlobOK Tryz.prog w0 Zay) : SoundAt Tryz.prog w0 84 Ze8 :=
  Zy2 (Zah (ZdL Zag) ZaH)
abbrev Zw8 : Ag (Unit) := .nil
abbrev Zw9 : Pt (List Int) := (.ints .i64 10)
def Zfh : Ct := tct Zw8 Zw9 fun x => ZdI
def Zue : List (FuncId × Ct) := []
def ZCH : List Gv := []
noncomputable def ZCI : List (Nat × Lf) := []
theorem ZEi : RunIs Tryz.prog (Zue) ZCH 0 (ZCI) Tryz.f81 Zw8 Zw9 (fun x => some (ZdI)) := by
  intro x; kernel_rfl
theorem ZEj {w0 : World}  (hcs : ∀ x ∈ Zue, SoundAt Tryz.prog w0 x.1 x.2) : SoundAt Tryz.prog w0 81 Zfh := by
  exact Za9 (Zak hcs (Zaq _ _) Tryz.func81 (by kernel_rfl) (by kernel_rfl) (S := 0) (fun w _ => Zal _) (fun _ => rfl) (ZEi)) fun _ _ => rfl
theorem ZiT {w0 : World}  : SoundAt Tryz.prog w0 81 Zfh :=
  ZEj ZaH
abbrev Zxa : Ag (Unit) := .nil
abbrev Zxb : Pt (List Int) := (.ints .i64 10)
def Zel : Ct := tct Zxa Zxb fun x => Za0
def Zuf : List (FuncId × Ct) := []
def ZCJ : List Gv := []
noncomputable def ZCK : List (Nat × Lf) := []
theorem ZEk : RunIs Tryz.prog (Zuf) ZCJ 0 (ZCK) Tryz.f80 Zxa Zxb (fun x => some (Za0)) := by
  intro x; kernel_rfl
theorem ZEl {w0 : World}  (hcs : ∀ x ∈ Zuf, SoundAt Tryz.prog w0 x.1 x.2) : SoundAt Tryz.prog w0 80 Zel := by
  exact Za9 (Zak hcs (Zaq _ _) Tryz.func80 (by kernel_rfl) (by kernel_rfl) (S := 0) (fun w _ => Zal _) (fun _ => rfl) (ZEk)) fun _ _ => rfl
theorem Zhn {w0 : World}  : SoundAt Tryz.prog w0 80 Zel :=
  ZEl ZaH
abbrev Zqz : Ag (List Int) := (.one (.ints .i64 10))
abbrev ZqA : Pt ((List Int × Bool)) := (.tup (.cons (.ints .i64 10) (.one .bool)))
def Zho (N : Nat) : Ct := fct Zqz ZqA fun x => ZdN N x
def Zpc (N : Nat) : List (FuncId × Ct) := [(81, Zfh), (82, (Zbd N)), (84, Ze8), (125, (Zif N))]
def Zbg : List Gv := [⟨5, 35, (.ints .i64 10 [0, 0, 0, 0, 0, 0, 0, 0, 0, 0])⟩]
noncomputable def Zy3 (N : Nat) : List (Nat × Lf) := []
theorem ZAq (N : Nat) : RunIs Tryz.prog (Zpc N) Zbg 0 (Zy3 N) Tryz.f103 Zqz ZqA (fun x => ZdN N x) := by
  intro x; kernel_rfl
theorem ZAr {w0 : World} (N : Nat)  (hcs : ∀ x ∈ Zpc N, SoundAt Tryz.prog w0 x.1 x.2) (hg : GlobOK Tryz.prog w0 Zbg) : SoundAt Tryz.prog w0 103 (Zho N) := by
  exact Zak hcs hg Tryz.func103 (by kernel_rfl) (by kernel_rfl) (S := 0) (fun w _ => Zal _) (fun _ => rfl) (ZAq N)
theorem ZqB {w0 : World} (N : Nat)  (Zae : GlobOK Tryz.prog w0 Zar) (Zag : GlobOK Tryz.prog w0 Zay) (Zaz : GlobOK Tryz.prog w0 Zbg) : SoundAt Tryz.prog w0 103 (Zho N) :=
  ZAr N (Zah (ZiT) (Zah (ZbE N Zae) (Zah (ZjT Zag) (Zah (Znq N Zae) ZaH)))) Zaz
abbrev Zki : Ag ((List Int × List Int)) := (.cons (.ints .i64 10) (.one (.ints .i64 10)))
abbrev Zkj : Pt ((List Int × Bool)) := (.tup (.cons (.ints .i64 10) (.one .bool)))
def Zc0 (N : Nat) : Ct := fct Zki Zkj fun x => Zby N x.1 x.2
def Zjm (N : Nat) : List (FuncId × Ct) := [(81, Zfh), (82, (Zbd N)), (86, (Zb2 N)), (103, (Zho N))]
def ZaY : List Gv := [⟨5, 35, (.ints .i64 10 [0, 0, 0, 0, 0, 0, 0, 0, 0, 0])⟩]
noncomputable def Zq2 (N : Nat) : List (Nat × Lf) := []
theorem Zsh (N : Nat) : RunIs Tryz.prog (Zjm N) ZaY 0 (Zq2 N) Tryz.f45 Zki Zkj (fun x => Zby N x.1 x.2) := by
  intro x; kernel_rfl
theorem Zsi {w0 : World} (N : Nat)  (hcs : ∀ x ∈ Zjm N, SoundAt Tryz.prog w0 x.1 x.2) (hg : GlobOK Tryz.prog w0 ZaY) : SoundAt Tryz.prog w0 45 (Zc0 N) := by
  exact Zak hcs hg Tryz.func45 (by kernel_rfl) (by kernel_rfl) (S := 0) (fun w _ => Zal _) (fun _ => rfl) (Zsh N)
theorem Ze9 {w0 : World} (N : Nat)  (Zae : GlobOK Tryz.prog w0 Zar) (Zag : GlobOK Tryz.prog w0 Zay) (Zaz : GlobOK Tryz.prog w0 Zbg) (Zat : GlobOK Tryz.prog w0 ZaY) : SoundAt Tryz.prog w0 45 (Zc0 N) :=
  Zsi N (Zah (ZiT) (Zah (ZbE N Zae) (Zah (ZcU N Zae) (Zah (ZqB N Zae Zag Zaz) ZaH)))) Zat
abbrev Zpd : Ag (Int) := (.one (.int .i64))
abbrev Zpe : Pt (List Int) := (.ints .i64 10)
def ZiU (N : Nat) : Ct := fct Zpd Zpe fun x => Zev N x
def Zns (N : Nat) : List (FuncId × Ct) := [(46, (Zcx N)), (80, Zel), (81, Zfh), (82, (Zbd N)), (83, Zcw), (84, Ze8), (86, (Zb2 N)), (103, (Zho N))]
def Zdx : List Gv := [⟨5, 35, (.ints .i64 10 [0, 0, 0, 0, 0, 0, 0, 0, 0, 0])⟩, ⟨2, 35, (.ints .i64 10 [1, 0, 0, 0, 0, 0, 0, 0, 0, 0])⟩]
noncomputable def Zxc (N : Nat) : List (Nat × Lf) := []
theorem Zy4 (N : Nat) : RunIs Tryz.prog (Zns N) Zdx 0 (Zxc N) Tryz.f85 Zpd Zpe (fun x => Zev N x) := by
  intro x; kernel_rfl
theorem Zy5 {w0 : World} (N : Nat)  (hcs : ∀ x ∈ Zns N, SoundAt Tryz.prog w0 x.1 x.2) (hg : GlobOK Tryz.prog w0 Zdx) : SoundAt Tryz.prog w0 85 (ZiU N) := by
  exact Zak hcs hg Tryz.func85 (by kernel_rfl) (by kernel_rfl) (S := 0) (fun w _ => Zal _) (fun _ => rfl) (Zy4 N)
theorem Zy6 {w0 : World} (N : Nat)  (Zae : GlobOK Tryz.prog w0 Zar) (Zag : GlobOK Tryz.prog w0 Zay) (Zaz : GlobOK Tryz.prog w0 Zbg) (Zcf : GlobOK Tryz.prog w0 Zdx) : SoundAt Tryz.prog w0 85 (ZiU N) :=
  Zy5 N (Zah (ZdM N Zae Zag) (Zah (Zhn) (Zah (ZiT) (Zah (ZbE N Zae) (Zah (ZdL Zag) (Zah (ZjT Zag) (Zah (ZcU N Zae) (Zah (ZqB N Zae Zag Zaz) ZaH)))))))) Zcf
abbrev Zlf : Ag (List Int) := (.one (.ints .i64 10))
abbrev Zlg : Pt (List Int) := (.ints .u8 32)
def ZdV (N : Nat) : Ct := fct Zlf Zlg fun x => Zbb N x
def Zfa (N : Nat) : List (FuncId × Ct) := []
def Zg5 : List Gv := []
def ZfX : Fm ((Unit × Unit × Unit × Int)) ((List Int × Unit × List Int)) := ⟨(.cons 1 (.lit (.ptr 0 [] 35)) (.cons 2 (.lit (.ptr 1 [] 58)) (.cons 3 (.lit (.ptr 2 [] 58)) (.one 4 (.int .i64))))), (.cons 0 (.ints .i64 10) (.cons 1 (.lit (.ints .u8 32 [0, 0, 0, 0, 0, 0, 0, 0, 0, 0, 0, 0, 0, 0, 0, 0, 0, 0, 0, 0, 0, 0, 0, 0, 0, 0, 0, 0, 0, 0, 0, 0])) (.one 2 (.ints .u8 32))))⟩
def ZfY : Fm ((Unit × Unit)) ((Unit × List Int)) := ⟨(.cons 2 (.lit (.ptr 1 [] 58)) (.one 3 (.lit (.ptr 2 [] 58)))), (.cons 1 (.lit (.ints .u8 32 [0, 0, 0, 0, 0, 0, 0, 0, 0, 0, 0, 0, 0, 0, 0, 0, 0, 0, 0, 0, 0, 0, 0, 0, 0, 0, 0, 0, 0, 0, 0, 0])) (.one 2 (.ints .u8 32)))⟩
def ZfZ : Fm (Unit) (Unit) := ⟨.nil, .nil⟩
noncomputable def Zg6 (N : Nat) : List (Nat × Lf) := [(0, loopCt ZfX ZfY ZfZ 4 (ZcC N) N)]
theorem ZmK (N : Nat) : StepIs Tryz.prog (cxOf Tryz.f50 (Zfa N) Zg5 0) (Zg6 N) Tryz.f50 0 4 ZfX ZfY ZfZ (ZcC N) := by
  intro v; kernel_rfl
theorem ZtJ (N : Nat) : RunIs Tryz.prog (Zfa N) Zg5 0 (Zg6 N) Tryz.f50 Zlf Zlg (fun x => Zbb N x) := by
  intro x; kernel_rfl
theorem ZtK {w0 : World} (N : Nat)  (hcs : ∀ x ∈ Zfa N, SoundAt Tryz.prog w0 x.1 x.2) : SoundAt Tryz.prog w0 50 (ZdV N) := by
  have L0 : ∀ w, RowKit.Below w0.heap.size w0 w → LoopOK Tryz.prog (cxOf Tryz.f50 (Zfa N) Zg5 0) w 0 (.loop (loopBody Tryz.f50 0)) (loopCt ZfX ZfY ZfZ 4 (ZcC N) N) :=
    Zbu hcs (ls := Zg6 N) (n := 100) (by kernel_rfl) (ZmK N) N fun w hw => ZaG (lp_no (by kernel_rfl) ZcL)
  exact Zak hcs (Zaq _ _) Tryz.func50 (by kernel_rfl) (by kernel_rfl) (S := 0) (fun w hw => ZaG (ZfD (L0 w hw) (by kernel_rfl) ZcL)) (fun _ => rfl) (ZtJ N)
theorem ZhE {w0 : World} (N : Nat)  : SoundAt Tryz.prog w0 50 (ZdV N) :=
  ZtK N ZaH
abbrev Znt : Ag (((Nat × List Int) × Unit)) := (.one (.tup (.cons (.lst .u8) (.one (.lit (.clo 5 []))))))
abbrev Znu : Pt (List Int) := (.ints .i64 10)
def Zf0 (N : Nat) : Ct := fct Znt Znu fun x => Zd1 N x
def Zf1 (N : Nat) : List (FuncId × Ct) := [(104, (Zdv N))]
def Zig : List Gv := []
def Zg7 : Fm ((Nat × Unit × Unit × Int)) (((Nat × List Int) × Unit × List Int)) := ⟨(.cons 0 (.slw 0 5) (.cons 2 (.lit (.ptr 1 [] 35)) (.cons 3 (.lit (.ptr 2 [] 141)) (.one 4 (.int .i64))))), (.cons 0 (.lst .u8) (.cons 1 (.lit (.ints .i64 10 [0, 0, 0, 0, 0, 0, 0, 0, 0, 0])) (.one 2 (.ints .i64 20))))⟩
def Zg8 : Fm ((Unit × Unit)) ((Unit × List Int)) := ⟨(.cons 2 (.lit (.ptr 1 [] 35)) (.one 3 (.lit (.ptr 2 [] 141)))), (.cons 1 (.lit (.ints .i64 10 [0, 0, 0, 0, 0, 0, 0, 0, 0, 0])) (.one 2 (.ints .i64 20)))⟩
def Zg9 : Fm (Unit) (Unit) := ⟨.nil, .nil⟩
noncomputable def Zih (N : Nat) : List (Nat × Lf) := [(0, loopCt Zg7 Zg8 Zg9 4 (Zb5 N) N)]
theorem Zpf (N : Nat) : StepIs Tryz.prog (cxOf Tryz.f87 (Zf1 N) Zig 1) (Zih N) Tryz.f87 0 4 Zg7 Zg8 Zg9 (Zb5 N) := by
  intro v; kernel_rfl
theorem Zxd (N : Nat) : RunIs Tryz.prog (Zf1 N) Zig 1 (Zih N) Tryz.f87 Znt Znu (fun x => Zd1 N x) := by
  intro x; kernel_rfl
theorem Zxe {w0 : World} (N : Nat)  (hcs : ∀ x ∈ Zf1 N, SoundAt Tryz.prog w0 x.1 x.2) : SoundAt Tryz.prog w0 87 (Zf0 N) := by
  have L0 : ∀ w, RowKit.Below w0.heap.size w0 w → LoopOK Tryz.prog (cxOf Tryz.f87 (Zf1 N) Zig 1) w 0 (.loop (loopBody Tryz.f87 0)) (loopCt Zg7 Zg8 Zg9 4 (Zb5 N) N) :=
    Zbu hcs (ls := Zih N) (n := 100) (by kernel_rfl) (Zpf N) N fun w hw => ZaG (lp_no (by kernel_rfl) ZcL)
  exact Zak hcs (Zaq _ _) Tryz.func87 (by kernel_rfl) (by kernel_rfl) (S := 1) (fun w hw => ZaG (ZfD (L0 w hw) (by kernel_rfl) ZcL)) (fun _ => rfl) (Zxd N)
theorem Znv {w0 : World} (N : Nat)  (Zae : GlobOK Tryz.prog w0 Zar) : SoundAt Tryz.prog w0 87 (Zf0 N) :=
  Zxe N (Zah (ZfH N Zae) ZaH)
abbrev Znw : Ag (List Int) := (.one (.ints .u8 32))
abbrev Znx : Pt ((List Int × Int)) := (.tup (.cons (.ints .i64 10) (.one (.int .i64))))
def Zii (N : Nat) : Ct := fct Znw Znx fun x => ZeU N x
def Zmb (N : Nat) : List (FuncId × Ct) := [(50, (ZdV N)), (87, (Zf0 N))]
def Zu7 : List Gv := []
noncomputable def Zu8 (N : Nat) : List (Nat × Lf) := []
theorem Zxf (N : Nat) : RunIs Tryz.prog (Zmb N) Zu7 0 (Zu8 N) Tryz.f116 Znw Znx (fun x => ZeU N x) := by
  intro x; kernel_rfl
theorem Zxg {w0 : World} (N : Nat)  (hcs : ∀ x ∈ Zmb N, SoundAt Tryz.prog w0 x.1 x.2) : SoundAt Tryz.prog w0 116 (Zii N) := by
  exact Zak hcs (Zaq _ _) Tryz.func116 (by kernel_rfl) (by kernel_rfl) (S := 0) (fun w _ => Zal _) (fun _ => rfl) (Zxf N)
theorem Zxh {w0 : World} (N : Nat)  (Zae : GlobOK Tryz.prog w0 Zar) : SoundAt Tryz.prog w0 116 (Zii N) :=
  Zxg N (Zah (ZhE N) (Zah (Znv N Zae) ZaH))
abbrev Zny : Ag (List Int) := (.one (.ints .u8 32))
abbrev Znz : Pt (List Int) := (.ints .i64 10)
def Zij (N : Nat) : Ct := fct Zny Znz fun x => ZdC N x
def Zmc (N : Nat) : List (FuncId × Ct) := [(87, (Zf0 N))]
def Zu9 : List Gv := []
noncomputable def Zva (N : Nat) : List (Nat × Lf) := []
theorem Zxi (N : Nat) : RunIs Tryz.prog (Zmc N) Zu9 0 (Zva N) Tryz.f22 Zny Znz (fun x => ZdC N x) := by
  intro x; kernel_rfl
theorem Zxj {w0 : World} (N : Nat)  (hcs : ∀ x ∈ Zmc N, SoundAt Tryz.prog w0 x.1 x.2) : SoundAt Tryz.prog w0 22 (Zij N) := by
  exact Zak hcs (Zaq _ _) Tryz.func22 (by kernel_rfl) (by kernel_rfl) (S := 0) (fun w _ => Zal _) (fun _ => rfl) (Zxi N)
theorem Zxk {w0 : World} (N : Nat)  (Zae : GlobOK Tryz.prog w0 Zar) : SoundAt Tryz.prog w0 22 (Zij N) :=
  Zxj N (Zah (Znv N Zae) ZaH)
abbrev Zmd : Ag (Unit) := .nil
abbrev Zme : Pt ((List Int × List Int)) := (.agg (.cons (.ints .i64 10) (.one (.ints .i64 10))))
def ZcV : Ct := tct Zmd Zme fun x => Zam
def Zlh : List (FuncId × Ct) := []
def ZaK : List Gv := [⟨2, 35, (.ints .i64 10 [1, 0, 0, 0, 0, 0, 0, 0, 0, 0])⟩]
noncomputable def ZtL : List (Nat × Lf) := []
theorem Zvb : RunIs Tryz.prog (Zlh) ZaK 0 (ZtL) Tryz.f93 Zmd Zme (fun x => some (Zam)) := by
  intro x; kernel_rfl
theorem Zvc {w0 : World}  (hcs : ∀ x ∈ Zlh, SoundAt Tryz.prog w0 x.1 x.2) (hg : GlobOK Tryz.prog w0 ZaK) : SoundAt Tryz.prog w0 93 ZcV := by
  exact Za9 (Zak hcs hg Tryz.func93 (by kernel_rfl) (by kernel_rfl) (S := 0) (fun w _ => Zal _) (fun _ => rfl) (Zvb)) fun _ _ => rfl
theorem ZeE {w0 : World}  (Zaj : GlobOK Tryz.prog w0 ZaK) : SoundAt Tryz.prog w0 93 ZcV :=
  Zvc ZaH Zaj
abbrev Zkk : Ag (((List Int × List Int) × (List Int × List Int))) := (.cons (.agg (.cons (.ints .i64 10) (.one (.ints .i64 10)))) (.one (.agg (.cons (.ints .i64 10) (.one (.ints .i64 10))))))
abbrev Zkl : Pt ((List Int × List Int)) := (.agg (.cons (.ints .i64 10) (.one (.ints .i64 10))))
def Zc1 (N : Nat) : Ct := fct Zkk Zkl fun x => Zbw N x.1 x.2
def Zjn (N : Nat) : List (FuncId × Ct) := [(46, (Zcx N)), (47, (Zce N)), (80, Zel), (82, (Zbd N)), (86, (Zb2 N))]
def Zbi : List Gv := [⟨2, 35, (.ints .i64 10 [1, 0, 0, 0, 0, 0, 0, 0, 0, 0])⟩]
noncomputable def Zq3 (N : Nat) : List (Nat × Lf) := []
theorem Zsj (N : Nat) : RunIs Tryz.prog (Zjn N) Zbi 0 (Zq3 N) Tryz.f88 Zkk Zkl (fun x => Zbw N x.1 x.2) := by
  intro x; kernel_rfl
theorem Zsk {w0 : World} (N : Nat)  (hcs : ∀ x ∈ Zjn N, SoundAt Tryz.prog w0 x.1 x.2) (hg : GlobOK Tryz.prog w0 Zbi) : SoundAt Tryz.prog w0 88 (Zc1 N) := by
  exact Zak hcs hg Tryz.func88 (by kernel_rfl) (by kernel_rfl) (S := 0) (fun w _ => Zal _) (fun _ => rfl) (Zsj N)
theorem Zfb {w0 : World} (N : Nat)  (Zae : GlobOK Tryz.prog w0 Zar) (Zag : GlobOK Tryz.prog w0 Zay) (ZaA : GlobOK Tryz.prog w0 Zbi) : SoundAt Tryz.prog w0 88 (Zc1 N) :=
  Zsk N (Zah (ZdM N Zae Zag) (Zah (Zdk N Zae) (Zah (Zhn) (Zah (ZbE N Zae) (Zah (ZcU N Zae) ZaH))))) ZaA
abbrev Zsl : Ag (List Int) := (.one (.ints .i64 10))
abbrev Zsm : Pt ((List Int × Bool)) := (.tup (.cons (.ints .i64 10) (.one .bool)))
def ZkJ (N : Nat) : Ct := fct Zsl Zsm fun x => Zlt N x
def ZqC (N : Nat) : List (FuncId × Ct) := [(45, (Zc0 N)), (46, (Zcx N)), (47, (Zce N)), (80, Zel), (82, (Zbd N))]
def Zc8 : List Gv := [⟨2, 35, (.ints .i64 10 [1, 0, 0, 0, 0, 0, 0, 0, 0, 0])⟩]
noncomputable def ZAs (N : Nat) : List (Nat × Lf) := []
theorem ZB5 (N : Nat) : RunIs Tryz.prog (ZqC N) Zc8 0 (ZAs N) Tryz.f141 Zsl Zsm (fun x => Zlt N x) := by
  intro x; kernel_rfl
theorem ZB6 {w0 : World} (N : Nat)  (hcs : ∀ x ∈ ZqC N, SoundAt Tryz.prog w0 x.1 x.2) (hg : GlobOK Tryz.prog w0 Zc8) : SoundAt Tryz.prog w0 141 (ZkJ N) := by
  exact Zak hcs hg Tryz.func141 (by kernel_rfl) (by kernel_rfl) (S := 0) (fun w _ => Zal _) (fun _ => rfl) (ZB5 N)
theorem ZB7 {w0 : World} (N : Nat)  (Zae : GlobOK Tryz.prog w0 Zar) (Zag : GlobOK Tryz.prog w0 Zay) (Zaz : GlobOK Tryz.prog w0 Zbg) (Zat : GlobOK Tryz.prog w0 ZaY) (ZbQ : GlobOK Tryz.prog w0 Zc8) : SoundAt Tryz.prog w0 141 (ZkJ N) :=
  ZB6 N (Zah (Ze9 N Zae Zag Zaz Zat) (Zah (ZdM N Zae Zag) (Zah (Zdk N Zae) (Zah (Zhn) (Zah (ZbE N Zae) ZaH))))) ZbQ
abbrev ZqD : Ag (Unit) := .nil
abbrev ZqE : Pt ((List Int × List Int)) := (.agg (.cons (.ints .i64 10) (.one (.ints .i64 10))))
def Zhp (N : Nat) : Ct := fct ZqD ZqE fun x => Zff N
def Zpg (N : Nat) : List (FuncId × Ct) := [(82, (Zbd N)), (86, (Zb2 N)), (140, (ZgF N)), (141, (ZkJ N))]
def Zy7 : List Gv := []
noncomputable def Zy8 (N : Nat) : List (Nat × Lf) := []
theorem ZAt (N : Nat) : RunIs Tryz.prog (Zpg N) Zy7 0 (Zy8 N) Tryz.f102 ZqD ZqE (fun x => Zff N) := by
  intro x; kernel_rfl
theorem ZAu {w0 : World} (N : Nat)  (hcs : ∀ x ∈ Zpg N, SoundAt Tryz.prog w0 x.1 x.2) : SoundAt Tryz.prog w0 102 (Zhp N) := by
  exact Zak hcs (Zaq _ _) Tryz.func102 (by kernel_rfl) (by kernel_rfl) (S := 0) (fun w _ => Zal _) (fun _ => rfl) (ZAt N)
theorem ZqF {w0 : World} (N : Nat)  (Zae : GlobOK Tryz.prog w0 Zar) (Zag : GlobOK Tryz.prog w0 Zay) (Zaz : GlobOK Tryz.prog w0 Zbg) (Zat : GlobOK Tryz.prog w0 ZaY) (ZbQ : GlobOK Tryz.prog w0 Zc8) : SoundAt Tryz.prog w0 102 (Zhp N) :=
  ZAu N (Zah (ZbE N Zae) (Zah (ZcU N Zae) (Zah (ZoZ N Zae) (Zah (ZB7 N Zae Zag Zaz Zat ZbQ) ZaH))))
abbrev Zmf : Ag (Unit) := .nil
abbrev Zmg : Pt ((List Int × List Int)) := (.agg (.one (.agg (.cons (.ints .i64 10) (.one (.ints .i64 10))))))
def Zeb : Ct := tct Zmf Zmg fun x => ZaT
def Zli : List (FuncId × Ct) := [(93, ZcV)]
def ZtM : List Gv := []
noncomputable def ZtN : List (Nat × Lf) := []
theorem Zvd : RunIs Tryz.prog (Zli) ZtM 0 (ZtN) Tryz.f117 Zmf Zmg (fun x => some (ZaT)) := by
  intro x; kernel_rfl
theorem Zve {w0 : World}  (hcs : ∀ x ∈ Zli, SoundAt Tryz.prog w0 x.1 x.2) : SoundAt Tryz.prog w0 117 Zeb := by
  exact Za9 (Zak hcs (Zaq _ _) Tryz.func117 (by kernel_rfl) (by kernel_rfl) (S := 0) (fun w _ => Zal _) (fun _ => rfl) (Zvd)) fun _ _ => rfl
theorem Zik {w0 : World}  (Zaj : GlobOK Tryz.prog w0 ZaK) : SoundAt Tryz.prog w0 117 Zeb :=
  Zve (Zah (ZeE Zaj) ZaH)
abbrev Zlj : Ag ((List Int × List Int)) := (.one (.agg (.one (.agg (.cons (.ints .i64 10) (.one (.ints .i64 10)))))))
abbrev Zlk : Pt ((List Int × List Int)) := (.agg (.cons (.ints .i64 10) (.one (.ints .i64 10))))
def Zch : Ct := tct Zlj Zlk fun x => Zap x
def Zkm : List (FuncId × Ct) := [(93, ZcV)]
def Zsn : List Gv := []
noncomputable def Zso : List (Nat × Lf) := []
theorem ZtO : RunIs Tryz.prog (Zkm) Zsn 0 (Zso) Tryz.f29 Zlj Zlk (fun x => Zhw x) := by
  intro x; kernel_rfl
theorem ZtP {w0 : World}  (hcs : ∀ x ∈ Zkm, SoundAt Tryz.prog w0 x.1 x.2) : SoundAt Tryz.prog w0 29 Zch := by
  exact Za9 (Zak hcs (Zaq _ _) Tryz.func29 (by kernel_rfl) (by kernel_rfl) (S := 0) (fun w _ => Zal _) (fun _ => rfl) (ZtO)) fun _ _ => ZqU _
theorem Zdz {w0 : World}  (Zaj : GlobOK Tryz.prog w0 ZaK) : SoundAt Tryz.prog w0 29 Zch :=
  ZtP (Zah (ZeE Zaj) ZaH)
abbrev Zph : Ag ((List Int × List Int)) := (.one (.agg (.cons (.ints .i64 10) (.one (.ints .i64 10)))))
abbrev Zpi : Pt (((List Int × List Int) × (List Int × List Int) × (List Int × List Int) × (List Int × List Int))) := (.agg (.cons (.agg (.cons (.ints .i64 10) (.one (.ints .i64 10)))) (.cons (.agg (.cons (.ints .i64 10) (.one (.ints .i64 10)))) (.cons (.agg (.cons (.ints .i64 10) (.one (.ints .i64 10)))) (.one (.agg (.cons (.ints .i64 10) (.one (.ints .i64 10)))))))))
def Zfc (N : Nat) : Ct := fct Zph Zpi fun x => Zcy N x
def ZnA (N : Nat) : List (FuncId × Ct) := [(81, Zfh), (82, (Zbd N)), (83, Zcw)]
def Zxl : List Gv := []
noncomputable def Zxm (N : Nat) : List (Nat × Lf) := []
theorem Zy9 (N : Nat) : RunIs Tryz.prog (ZnA N) Zxl 0 (Zxm N) Tryz.f28 Zph Zpi (fun x => Zcy N x) := by
  intro x; kernel_rfl
theorem Zza {w0 : World} (N : Nat)  (hcs : ∀ x ∈ ZnA N, SoundAt Tryz.prog w0 x.1 x.2) : SoundAt Tryz.prog w0 28 (Zfc N) := by
  exact Zak hcs (Zaq _ _) Tryz.func28 (by kernel_rfl) (by kernel_rfl) (S := 0) (fun w _ => Zal _) (fun _ => rfl) (Zy9 N)
theorem ZjU {w0 : World} (N : Nat)  (Zae : GlobOK Tryz.prog w0 Zar) (Zag : GlobOK Tryz.prog w0 Zay) : SoundAt Tryz.prog w0 28 (Zfc N) :=
  Zza N (Zah (ZiT) (Zah (ZbE N Zae) (Zah (ZdL Zag) ZaH)))
abbrev Zjo : Ag (((List Int × List Int) × (List Int × List Int))) := (.cons (.agg (.one (.agg (.cons (.ints .i64 10) (.one (.ints .i64 10)))))) (.one (.agg (.one (.agg (.cons (.ints .i64 10) (.one (.ints .i64 10))))))))
abbrev Zjp : Pt (Bool) := .bool
def Zf2 (N : Nat) : Ct := fct Zjo Zjp fun x => ZbU N x.1 x.2
def ZiV (N : Nat) : List (FuncId × Ct) := [(28, (Zfc N)), (29, Zch)]
def Zp4 : List Gv := []
noncomputable def Zp5 (N : Nat) : List (Nat × Lf) := []
theorem Zq4 (N : Nat) : RunIs Tryz.prog (ZiV N) Zp4 0 (Zp5 N) Tryz.f49 Zjo Zjp (fun x => ZbU N x.1 x.2) := by
  intro x; kernel_rfl
theorem Zq5 {w0 : World} (N : Nat)  (hcs : ∀ x ∈ ZiV N, SoundAt Tryz.prog w0 x.1 x.2) : SoundAt Tryz.prog w0 49 (Zf2 N) := by
  exact Zak hcs (Zaq _ _) Tryz.func49 (by kernel_rfl) (by kernel_rfl) (S := 0) (fun w _ => Zal _) (fun _ => rfl) (Zq4 N)
theorem Zq6 {w0 : World} (N : Nat)  (Zae : GlobOK Tryz.prog w0 Zar) (Zag : GlobOK Tryz.prog w0 Zay) (Zaj : GlobOK Tryz.prog w0 ZaK) : SoundAt Tryz.prog w0 49 (Zf2 N) :=
  Zq5 N (Zah (ZjU N Zae Zag) (Zah (Zdz Zaj) ZaH))
abbrev ZnB : Ag (List Int) := (.one (.ints .i64 10))
abbrev ZnC : Pt (((List Int × List Int) × Bool)) := (.tup (.cons (.agg (.cons (.ints .i64 10) (.one (.ints .i64 10)))) (.one .bool)))
def Zf3 (N : Nat) : Ct := fct ZnB ZnC fun x => Zcc N x
def Zmh (N : Nat) : List (FuncId × Ct) := [(45, (Zc0 N)), (46, (Zcx N)), (47, (Zce N)), (80, Zel), (82, (Zbd N)), (83, Zcw), (86, (Zb2 N)), (93, ZcV), (94, Zdw)]
def Zdc : List Gv := [⟨2, 35, (.ints .i64 10 [1, 0, 0, 0, 0, 0, 0, 0, 0, 0])⟩, ⟨5, 35, (.ints .i64 10 [0, 0, 0, 0, 0, 0, 0, 0, 0, 0])⟩]
noncomputable def Zvf (N : Nat) : List (Nat × Lf) := []
theorem Zxn (N : Nat) : RunIs Tryz.prog (Zmh N) Zdc 0 (Zvf N) Tryz.f48 ZnB ZnC (fun x => Zcc N x) := by
  intro x; kernel_rfl
theorem Zxo {w0 : World} (N : Nat)  (hcs : ∀ x ∈ Zmh N, SoundAt Tryz.prog w0 x.1 x.2) (hg : GlobOK Tryz.prog w0 Zdc) : SoundAt Tryz.prog w0 48 (Zf3 N) := by
  exact Zak hcs hg Tryz.func48 (by kernel_rfl) (by kernel_rfl) (S := 0) (fun w _ => Zal _) (fun _ => rfl) (Zxn N)
theorem ZnD {w0 : World} (N : Nat)  (Zae : GlobOK Tryz.prog w0 Zar) (Zag : GlobOK Tryz.prog w0 Zay) (Zaz : GlobOK Tryz.prog w0 Zbg) (Zat : GlobOK Tryz.prog w0 ZaY) (Zaj : GlobOK Tryz.prog w0 ZaK) (ZbT : GlobOK Tryz.prog w0 Zdc) : SoundAt Tryz.prog w0 48 (Zf3 N) :=
  Zxo N (Zah (Ze9 N Zae Zag Zaz Zat) (Zah (ZdM N Zae Zag) (Zah (Zdk N Zae) (Zah (Zhn) (Zah (ZbE N Zae) (Zah (ZdL Zag) (Zah (ZcU N Zae) (Zah (ZeE Zaj) (Zah (Zgr) ZaH))))))))) ZbT
abbrev ZnE : Ag (List Int) := (.one (.ints .u8 32))
abbrev ZnF : Pt (((List Int × List Int) × Int)) := (.tup (.cons (.agg (.one (.agg (.cons (.ints .i64 10) (.one (.ints .i64 10)))))) (.one (.int .i64))))
def Zil (N : Nat) : Ct := fct ZnE ZnF fun x => Zc6 N x
def Zmi (N : Nat) : List (FuncId × Ct) := [(48, (Zf3 N)), (94, Zdw), (116, (Zii N)), (117, Zeb)]
def Zvg : List Gv := []
noncomputable def Zvh (N : Nat) : List (Nat × Lf) := []
theorem Zxp (N : Nat) : RunIs Tryz.prog (Zmi N) Zvg 0 (Zvh N) Tryz.f71 ZnE ZnF (fun x => Zc6 N x) := by
  intro x; kernel_rfl
theorem Zxq {w0 : World} (N : Nat)  (hcs : ∀ x ∈ Zmi N, SoundAt Tryz.prog w0 x.1 x.2) : SoundAt Tryz.prog w0 71 (Zil N) := by
  exact Zak hcs (Zaq _ _) Tryz.func71 (by kernel_rfl) (by kernel_rfl) (S := 0) (fun w _ => Zal _) (fun _ => rfl) (Zxp N)
theorem Zxr {w0 : World} (N : Nat)  (Zae : GlobOK Tryz.prog w0 Zar) (Zag : GlobOK Tryz.prog w0 Zay) (Zaz : GlobOK Tryz.prog w0 Zbg) (Zat : GlobOK Tryz.prog w0 ZaY) (Zaj : GlobOK Tryz.prog w0 ZaK) (ZbT : GlobOK Tryz.prog w0 Zdc) : SoundAt Tryz.prog w0 71 (Zil N) :=
  Zxq N (Zah (ZnD N Zae Zag Zaz Zat Zaj ZbT) (Zah (Zgr) (Zah (Zxh N Zae) (Zah (Zik Zaj) ZaH))))
abbrev Ziz : Ag ((List Int × List Int)) := (.one (.agg (.one (.agg (.cons (.ints .i64 10) (.one (.ints .i64 10)))))))
abbrev ZiA : Pt (List Int) := (.ints .u8 32)
def ZdP (N : Nat) : Ct := fct Ziz ZiA fun x => Za2 N x
def ZdQ (N : Nat) : List (FuncId × Ct) := [(28, (Zfc N)), (29, Zch), (45, (Zc0 N)), (46, (Zcx N)), (47, (Zce N)), (48, (Zf3 N)), (49, (Zf2 N)), (50, (ZdV N))]
def Zb7 : List Gv := [⟨2, 35, (.ints .i64 10 [1, 0, 0, 0, 0, 0, 0, 0, 0, 0])⟩]
def ZeF : Fm ((Unit × Unit × Unit × Int)) ((Unit × (List Int × List Int) × Unit × ((List Int × List Int) × (List Int × List Int) × (List Int × List Int) × (List Int × List Int)))) := ⟨(.cons 1 (.lit (.ptr 1 [] 39)) (.cons 2 (.lit (.ptr 2 [] 58)) (.cons 3 (.lit (.ptr 6 [] 43)) (.one 4 (.int .i64))))), (.cons 0 (.lit (.ints .i64 10 [1, 0, 0, 0, 0, 0, 0, 0, 0, 0])) (.cons 1 (.agg (.one (.agg (.cons (.ints .i64 10) (.one (.ints .i64 10)))))) (.cons 2 (.lit (.ints .u8 32 [0, 0, 0, 0, 0, 0, 0, 0, 0, 0, 0, 0, 0, 0, 0, 0, 0, 0, 0, 0, 0, 0, 0, 0, 0, 0, 0, 0, 0, 0, 0, 0])) (.one 6 (.agg (.cons (.agg (.cons (.ints .i64 10) (.one (.ints .i64 10)))) (.cons (.agg (.cons (.ints .i64 10) (.one (.ints .i64 10)))) (.cons (.agg (.cons (.ints .i64 10) (.one (.ints .i64 10)))) (.one (.agg (.cons (.ints .i64 10) (.one (.ints .i64 10)))))))))))))⟩
def ZeG : Fm (Unit) ((Unit × Unit)) := ⟨(.one 2 (.lit (.ptr 2 [] 58))), (.cons 0 (.lit (.ints .i64 10 [1, 0, 0, 0, 0, 0, 0, 0, 0, 0])) (.one 2 (.lit (.ints .u8 32 [0, 0, 0, 0, 0, 0, 0, 0, 0, 0, 0, 0, 0, 0, 0, 0, 0, 0, 0, 0, 0, 0, 0, 0, 0, 0, 0, 0, 0, 0, 0, 0]))))⟩
def ZeH : Fm (Unit) ((Unit × List Int)) := ⟨(.one 2 (.lit (.ptr 2 [] 58))), (.cons 0 (.lit (.ints .i64 10 [1, 0, 0, 0, 0, 0, 0, 0, 0, 0])) (.one 2 (.ints .u8 32)))⟩
noncomputable def Zfi (N : Nat) : List (Nat × Lf) := [(0, loopCt ZeF ZeG ZeH 9 (ZbL N) N)]
theorem Zkn (N : Nat) : StepIs Tryz.prog (cxOf Tryz.f15 (ZdQ N) Zb7 0) (Zfi N) Tryz.f15 0 9 ZeF ZeG ZeH (ZbL N) := by
  intro v; kernel_rfl
theorem Zpj (N : Nat) : RunIs Tryz.prog (ZdQ N) Zb7 0 (Zfi N) Tryz.f15 Ziz ZiA (fun x => Za2 N x) := by
  intro x; kernel_rfl
theorem Zpk {w0 : World} (N : Nat)  (hcs : ∀ x ∈ ZdQ N, SoundAt Tryz.prog w0 x.1 x.2) (hg : GlobOK Tryz.prog w0 Zb7) : SoundAt Tryz.prog w0 15 (ZdP N) := by
  have L0 : ∀ w, RowKit.Below w0.heap.size w0 w → LoopOK Tryz.prog (cxOf Tryz.f15 (ZdQ N) Zb7 0) w 0 (.loop (loopBody Tryz.f15 0)) (loopCt ZeF ZeG ZeH 9 (ZbL N) N) :=
    Zbu hcs (ls := Zfi N) (n := 100) (by kernel_rfl) (Zkn N) N fun w hw => ZaG (lp_no (by kernel_rfl) ZcL)
  exact Zak hcs hg Tryz.func15 (by kernel_rfl) (by kernel_rfl) (S := 0) (fun w hw => ZaG (ZfD (L0 w hw) (by kernel_rfl) ZcL)) (fun _ => rfl) (Zpj N)
theorem ZiB {w0 : World} (N : Nat)  (Zae : GlobOK Tryz.prog w0 Zar) (Zag : GlobOK Tryz.prog w0 Zay) (Zaj : GlobOK Tryz.prog w0 ZaK) (Zaz : GlobOK Tryz.prog w0 Zbg) (Zat : GlobOK Tryz.prog w0 ZaY) (ZbT : GlobOK Tryz.prog w0 Zdc) (Zcs : GlobOK Tryz.prog w0 Zb7) : SoundAt Tryz.prog w0 15 (ZdP N) :=
  Zpk N (Zah (ZjU N Zae Zag) (Zah (Zdz Zaj) (Zah (Ze9 N Zae Zag Zaz Zat) (Zah (ZdM N Zae Zag) (Zah (Zdk N Zae) (Zah (ZnD N Zae Zag Zaz Zat Zaj ZbT) (Zah (Zq6 N Zae Zag Zaj) (Zah (ZhE N) ZaH)))))))) Zcs
abbrev Zko : Ag (((List Int × List Int) × (List Int × List Int))) := (.cons (.agg (.one (.agg (.cons (.ints .i64 10) (.one (.ints .i64 10)))))) (.one (.agg (.one (.agg (.cons (.ints .i64 10) (.one (.ints .i64 10))))))))
abbrev Zkp : Pt ((List Int × List Int)) := (.agg (.one (.agg (.cons (.ints .i64 10) (.one (.ints .i64 10))))))
def Zc2 (N : Nat) : Ct := fct Zko Zkp fun x => Zbx N x.1 x.2
def Zjq (N : Nat) : List (FuncId × Ct) := [(29, Zch), (88, (Zc1 N))]
def Zq7 : List Gv := []
noncomputable def Zq8 (N : Nat) : List (Nat × Lf) := []
theorem Zsp (N : Nat) : RunIs Tryz.prog (Zjq N) Zq7 0 (Zq8 N) Tryz.f23 Zko Zkp (fun x => Zbx N x.1 x.2) := by
  intro x; kernel_rfl
theorem Zsq {w0 : World} (N : Nat)  (hcs : ∀ x ∈ Zjq N, SoundAt Tryz.prog w0 x.1 x.2) : SoundAt Tryz.prog w0 23 (Zc2 N) := by
  exact Zak hcs (Zaq _ _) Tryz.func23 (by kernel_rfl) (by kernel_rfl) (S := 0) (fun w _ => Zal _) (fun _ => rfl) (Zsp N)
theorem Zfd {w0 : World} (N : Nat)  (Zaj : GlobOK Tryz.prog w0 ZaK) (Zae : GlobOK Tryz.prog w0 Zar) (Zag : GlobOK Tryz.prog w0 Zay) (ZaA : GlobOK Tryz.prog w0 Zbi) : SoundAt Tryz.prog w0 23 (Zc2 N) :=
  Zsq N (Zah (Zdz Zaj) (Zah (Zfb N Zae Zag ZaA) ZaH))
abbrev Zmj : Ag (List Int) := (.one (.ints .i64 10))
abbrev Zmk : Pt ((List Int × List Int)) := (.agg (.one (.agg (.cons (.ints .i64 10) (.one (.ints .i64 10))))))
def Zfr (N : Nat) : Ct := fct Zmj Zmk fun x => Zco N x
def Zll (N : Nat) : List (FuncId × Ct) := [(45, (Zc0 N)), (46, (Zcx N)), (47, (Zce N)), (80, Zel), (81, Zfh), (82, (Zbd N)), (83, Zcw), (84, Ze8), (85, (ZiU N)), (86, (Zb2 N))]
def ZdA : List Gv := [⟨2, 35, (.ints .i64 10 [1, 0, 0, 0, 0, 0, 0, 0, 0, 0])⟩]
noncomputable def ZtQ (N : Nat) : List (Nat × Lf) := []
theorem Zvi (N : Nat) : RunIs Tryz.prog (Zll N) ZdA 0 (ZtQ N) Tryz.f21 Zmj Zmk (fun x => Zco N x) := by
  intro x; kernel_rfl
theorem Zvj {w0 : World} (N : Nat)  (hcs : ∀ x ∈ Zll N, SoundAt Tryz.prog w0 x.1 x.2) (hg : GlobOK Tryz.prog w0 ZdA) : SoundAt Tryz.prog w0 21 (Zfr N) := by
  exact Zak hcs hg Tryz.func21 (by kernel_rfl) (by kernel_rfl) (S := 0) (fun w _ => Zal _) (fun _ => rfl) (Zvi N)
theorem Zml {w0 : World} (N : Nat)  (Zae : GlobOK Tryz.prog w0 Zar) (Zag : GlobOK Tryz.prog w0 Zay) (Zaz : GlobOK Tryz.prog w0 Zbg) (Zat : GlobOK Tryz.prog w0 ZaY) (Zcf : GlobOK Tryz.prog w0 Zdx) (Zct : GlobOK Tryz.prog w0 ZdA) : SoundAt Tryz.prog w0 21 (Zfr N) :=
  Zvj N (Zah (Ze9 N Zae Zag Zaz Zat) (Zah (ZdM N Zae Zag) (Zah (Zdk N Zae) (Zah (Zhn) (Zah (ZiT) (Zah (ZbE N Zae) (Zah (ZdL Zag) (Zah (ZjT Zag) (Zah (Zy6 N Zae Zag Zaz Zcf) (Zah (ZcU N Zae) ZaH)))))))))) Zct
abbrev Zsr : Ag (List Int) := (.one (.ints .u8 64))
abbrev Zss : Pt ((List Int × List Int)) := (.agg (.one (.agg (.cons (.ints .i64 10) (.one (.ints .i64 10))))))
def ZkK (N : Nat) : Ct := fct Zsr Zss fun x => Zhh N x
def Zh8 (N : Nat) : List (FuncId × Ct) := [(21, (Zfr N)), (22, (Zij N)), (23, (Zc2 N))]
def ZkL : List Gv := []
def ZiW : Fm ((Unit × Unit × Unit × Unit × Int)) ((List Int × Unit × List Int × List Int)) := ⟨(.cons 1 (.lit (.ptr 0 [] 23)) (.cons 2 (.lit (.ptr 1 [] 39)) (.cons 3 (.lit (.ptr 2 [] 58)) (.cons 4 (.lit (.ptr 3 [] 58)) (.one 5 (.int .i64)))))), (.cons 0 (.ints .u8 64) (.cons 1 (.lit (.agg [(.agg [(.ints .i64 10 [0, 0, 0, 0, 0, 0, 0, 0, 0, 0]), (.ints .i64 10 [0, 0, 0, 0, 0, 0, 0, 0, 0, 0])])])) (.cons 2 (.ints .u8 32) (.one 3 (.ints .u8 32)))))⟩
def ZiX : Fm ((Unit × Unit × Unit)) ((Unit × List Int × List Int)) := ⟨(.cons 2 (.lit (.ptr 1 [] 39)) (.cons 3 (.lit (.ptr 2 [] 58)) (.one 4 (.lit (.ptr 3 [] 58))))), (.cons 1 (.lit (.agg [(.agg [(.ints .i64 10 [0, 0, 0, 0, 0, 0, 0, 0, 0, 0]), (.ints .i64 10 [0, 0, 0, 0, 0, 0, 0, 0, 0, 0])])])) (.cons 2 (.ints .u8 32) (.one 3 (.ints .u8 32))))⟩
def ZiY : Fm (Unit) (Unit) := ⟨.nil, .nil⟩
noncomputable def ZkM (N : Nat) : List (Nat × Lf) := [(0, loopCt ZiW ZiX ZiY 5 (Zc5 N) N)]
theorem Zst (N : Nat) : StepIs Tryz.prog (cxOf Tryz.f6 (Zh8 N) ZkL 0) (ZkM N) Tryz.f6 0 5 ZiW ZiX ZiY (Zc5 N) := by
  intro v; kernel_rfl
theorem ZB8 (N : Nat) : RunIs Tryz.prog (Zh8 N) ZkL 0 (ZkM N) Tryz.f6 Zsr Zss (fun x => Zhh N x) := by
  intro x; kernel_rfl
theorem ZB9 {w0 : World} (N : Nat)  (hcs : ∀ x ∈ Zh8 N, SoundAt Tryz.prog w0 x.1 x.2) : SoundAt Tryz.prog w0 6 (ZkK N) := by
  have L0 : ∀ w, RowKit.Below w0.heap.size w0 w → LoopOK Tryz.prog (cxOf Tryz.f6 (Zh8 N) ZkL 0) w 0 (.loop (loopBody Tryz.f6 0)) (loopCt ZiW ZiX ZiY 5 (Zc5 N) N) :=
    Zbu hcs (ls := ZkM N) (n := 100) (by kernel_rfl) (Zst N) N fun w hw => ZaG (lp_no (by kernel_rfl) ZcL)
  exact Zak hcs (Zaq _ _) Tryz.func6 (by kernel_rfl) (by kernel_rfl) (S := 0) (fun w hw => ZaG (ZfD (L0 w hw) (by kernel_rfl) ZcL)) (fun _ => rfl) (ZB8 N)
theorem ZCa {w0 : World} (N : Nat)  (Zae : GlobOK Tryz.prog w0 Zar) (Zag : GlobOK Tryz.prog w0 Zay) (Zaz : GlobOK Tryz.prog w0 Zbg) (Zat : GlobOK Tryz.prog w0 ZaY) (Zcf : GlobOK Tryz.prog w0 Zdx) (Zct : GlobOK Tryz.prog w0 ZdA) (Zaj : GlobOK Tryz.prog w0 ZaK) (ZaA : GlobOK Tryz.prog w0 Zbi) : SoundAt Tryz.prog w0 6 (ZkK N) :=
  ZB9 N (Zah (Zml N Zae Zag Zaz Zat Zcf Zct) (Zah (Zxk N Zae) (Zah (Zfd N Zaj Zae Zag ZaA) ZaH)))
abbrev ZqG : Ag (Unit) := .nil
abbrev ZqH : Pt ((List Int × List Int)) := (.agg (.one (.agg (.cons (.ints .i64 10) (.one (.ints .i64 10))))))
def ZjV (N : Nat) : Ct := fct ZqG ZqH fun x => ZhX N
def Zpl (N : Nat) : List (FuncId × Ct) := [(102, (Zhp N))]
def Zzb : List Gv := []
noncomputable def Zzc (N : Nat) : List (Nat × Lf) := []
theorem ZAv (N : Nat) : RunIs Tryz.prog (Zpl N) Zzb 0 (Zzc N) Tryz.f44 ZqG ZqH (fun x => ZhX N) := by
  intro x; kernel_rfl
theorem ZAw {w0 : World} (N : Nat)  (hcs : ∀ x ∈ Zpl N, SoundAt Tryz.prog w0 x.1 x.2) : SoundAt Tryz.prog w0 44 (ZjV N) := by
  exact Zak hcs (Zaq _ _) Tryz.func44 (by kernel_rfl) (by kernel_rfl) (S := 0) (fun w _ => Zal _) (fun _ => rfl) (ZAv N)
theorem ZAx {w0 : World} (N : Nat)  (Zae : GlobOK Tryz.prog w0 Zar) (Zag : GlobOK Tryz.prog w0 Zay) (Zaz : GlobOK Tryz.prog w0 Zbg) (Zat : GlobOK Tryz.prog w0 ZaY) (ZbQ : GlobOK Tryz.prog w0 Zc8) : SoundAt Tryz.prog w0 44 (ZjV N) :=
  ZAw N (Zah (ZqF N Zae Zag Zaz Zat ZbQ) ZaH)
abbrev Zpm : Ag ((List Int × List Int × List Int × List Int)) := (.one (.agg (.one (.agg (.cons (.ints .u64 5) (.cons (.ints .u64 5) (.cons (.ints .u64 5) (.one (.ints .u64 5)))))))))
abbrev Zpn : Pt (((List Int × List Int × List Int × List Int) × Int)) := (.tup (.cons (.agg (.one (.agg (.one (.agg (.cons (.ints .u64 5) (.cons (.ints .u64 5) (.cons (.ints .u64 5) (.one (.ints .u64 5)))))))))) (.one (.int .i64))))
def ZgI (N : Nat) : Ct := fct Zpm Zpn fun x => Zcl N x
def ZnG (N : Nat) : List (FuncId × Ct) := [(32, Zdj), (33, (Zid N))]
def Zxs : List Gv := []
noncomputable def Zxt (N : Nat) : List (Nat × Lf) := []
theorem Zzd (N : Nat) : RunIs Tryz.prog (ZnG N) Zxs 0 (Zxt N) Tryz.f9 Zpm Zpn (fun x => Zcl N x) := by
  intro x; kernel_rfl
theorem Zze {w0 : World} (N : Nat)  (hcs : ∀ x ∈ ZnG N, SoundAt Tryz.prog w0 x.1 x.2) : SoundAt Tryz.prog w0 9 (ZgI N) := by
  exact Zak hcs (Zaq _ _) Tryz.func9 (by kernel_rfl) (by kernel_rfl) (S := 0) (fun w _ => Zal _) (fun _ => rfl) (Zzd N)
theorem Zpo {w0 : World} (N : Nat)  (Zai : GlobOK Tryz.prog w0 ZaD) (Zav : GlobOK Tryz.prog w0 Za7) (Zb6 : GlobOK Tryz.prog w0 Zdb) : SoundAt Tryz.prog w0 9 (ZgI N) :=
  Zze N (Zah (Zfq Zai) (Zah (ZwJ N Zai Zav Zb6) ZaH))
abbrev Zsu : Ag ((((Nat × List Int) × Unit) × ((Nat × List Int) × Unit))) := (.cons (.tup (.cons (.lst .u8) (.one (.lit (.clo 5 []))))) (.one (.tup (.cons (.lst .u8) (.one (.lit (.clo 5 [])))))))
abbrev Zsv : Pt (Int) := (.int .i64)
def ZkN : Ct := tct Zsu Zsv fun x => ZpU x.1 x.2
def ZqI : List (FuncId × Ct) := [(92, ZmV)]
def ZAy : List Gv := []
noncomputable def ZAz : List (Nat × Lf) := []
theorem ZCb : RunIs Tryz.prog (ZqI) ZAy 2 (ZAz) Tryz.f27 Zsu Zsv (fun x => some (ZpU x.1 x.2)) := by
  intro x; kernel_rfl
theorem ZCc {w0 : World}  (hcs : ∀ x ∈ ZqI, SoundAt Tryz.prog w0 x.1 x.2) : SoundAt Tryz.prog w0 27 ZkN := by
  exact Za9 (Zak hcs (Zaq _ _) Tryz.func27 (by kernel_rfl) (by kernel_rfl) (S := 2) (fun w _ => Zal _) (fun _ => rfl) (ZCb)) fun _ _ => rfl
theorem ZCd {w0 : World}  : SoundAt Tryz.prog w0 27 ZkN :=
  ZCc (Zah (Zyc) ZaH)
abbrev Zkq : Ag (((List Int × List Int × List Int × List Int) × (List Int × List Int × List Int × List Int))) := (.cons (.agg (.one (.agg (.cons (.ints .u64 5) (.cons (.ints .u64 5) (.cons (.ints .u64 5) (.one (.ints .u64 5)))))))) (.one (.agg (.one (.agg (.cons (.ints .u64 5) (.cons (.ints .u64 5) (.cons (.ints .u64 5) (.one (.ints .u64 5))))))))))
abbrev Zkr : Pt (Int) := (.int .i64)
def Zgs (N : Nat) : Ct := fct Zkq Zkr fun x => ZaF N x.1 x.2
def Zjr (N : Nat) : List (FuncId × Ct) := [(26, (ZfV N)), (27, ZkN)]
def Zq9 : List Gv := []
noncomputable def Zra (N : Nat) : List (Nat × Lf) := []
theorem Zsw (N : Nat) : RunIs Tryz.prog (Zjr N) Zq9 0 (Zra N) Tryz.f25 Zkq Zkr (fun x => ZaF N x.1 x.2) := by
  intro x; kernel_rfl
theorem Zsx {w0 : World} (N : Nat)  (hcs : ∀ x ∈ Zjr N, SoundAt Tryz.prog w0 x.1 x.2) : SoundAt Tryz.prog w0 25 (Zgs N) := by
  exact Zak hcs (Zaq _ _) Tryz.func25 (by kernel_rfl) (by kernel_rfl) (S := 0) (fun w _ => Zal _) (fun _ => rfl) (Zsw N)
theorem Zsy {w0 : World} (N : Nat)  (Zai : GlobOK Tryz.prog w0 ZaD) : SoundAt Tryz.prog w0 25 (Zgs N) :=
  Zsx N (Zah (ZqZ N Zai) (Zah (ZCd) ZaH))
abbrev Zmm : Ag ((List Int × List Int × List Int × List Int)) := (.one (.agg (.one (.agg (.one (.agg (.cons (.ints .u64 5) (.cons (.ints .u64 5) (.cons (.ints .u64 5) (.one (.ints .u64 5)))))))))))
abbrev Zmn : Pt (((List Int × List Int × List Int × List Int) × (List Int × List Int × List Int × List Int) × (List Int × List Int × List Int × List Int) × (List Int × List Int × List Int × List Int))) := (.agg (.cons (.agg (.one (.agg (.cons (.ints .u64 5) (.cons (.ints .u64 5) (.cons (.ints .u64 5) (.one (.ints .u64 5)))))))) (.cons (.agg (.one (.agg (.cons (.ints .u64 5) (.cons (.ints .u64 5) (.cons (.ints .u64 5) (.one (.ints .u64 5)))))))) (.cons (.agg (.one (.agg (.cons (.ints .u64 5) (.cons (.ints .u64 5) (.cons (.ints .u64 5) (.one (.ints .u64 5)))))))) (.one (.agg (.one (.agg (.cons (.ints .u64 5) (.cons (.ints .u64 5) (.cons (.ints .u64 5) (.one (.ints .u64 5)))))))))))))
def ZhF (N : Nat) : Ct := fct Zmm Zmn fun x => Zem N x
def Zau (N : Nat) : List (FuncId × Ct) := [(10, Zdu), (11, Zh6), (25, (Zgs N))]
def Zaw : List Gv := []
noncomputable def Zlm (N : Nat) : List (FuncId × Inl) := ((24, inlOf Tryz.prog (Zau N) Zaw 0 100 ((90, inlOf Tryz.prog (Zau N) Zaw 0 100 ((135, inlOf Tryz.prog (Zau N) Zaw 0 100 ((89, inlOf Tryz.prog (Zau N) Zaw 0 100 ((126, inlOf Tryz.prog (Zau N) Zaw 0 100 [] Tryz.f126) :: []) Tryz.f89) :: ((126, inlOf Tryz.prog (Zau N) Zaw 0 100 [] Tryz.f126) :: [])) Tryz.f135) :: ((89, inlOf Tryz.prog (Zau N) Zaw 0 100 ((126, inlOf Tryz.prog (Zau N) Zaw 0 100 [] Tryz.f126) :: []) Tryz.f89) :: ((126, inlOf Tryz.prog (Zau N) Zaw 0 100 [] Tryz.f126) :: []))) Tryz.f90) :: ((135, inlOf Tryz.prog (Zau N) Zaw 0 100 ((89, inlOf Tryz.prog (Zau N) Zaw 0 100 ((126, inlOf Tryz.prog (Zau N) Zaw 0 100 [] Tryz.f126) :: []) Tryz.f89) :: ((126, inlOf Tryz.prog (Zau N) Zaw 0 100 [] Tryz.f126) :: [])) Tryz.f135) :: ((89, inlOf Tryz.prog (Zau N) Zaw 0 100 ((126, inlOf Tryz.prog (Zau N) Zaw 0 100 [] Tryz.f126) :: []) Tryz.f89) :: ((126, inlOf Tryz.prog (Zau N) Zaw 0 100 [] Tryz.f126) :: [])))) Tryz.f24) :: ((90, inlOf Tryz.prog (Zau N) Zaw 0 100 ((135, inlOf Tryz.prog (Zau N) Zaw 0 100 ((89, inlOf Tryz.prog (Zau N) Zaw 0 100 ((126, inlOf Tryz.prog (Zau N) Zaw 0 100 [] Tryz.f126) :: []) Tryz.f89) :: ((126, inlOf Tryz.prog (Zau N) Zaw 0 100 [] Tryz.f126) :: [])) Tryz.f135) :: ((89, inlOf Tryz.prog (Zau N) Zaw 0 100 ((126, inlOf Tryz.prog (Zau N) Zaw 0 100 [] Tryz.f126) :: []) Tryz.f89) :: ((126, inlOf Tryz.prog (Zau N) Zaw 0 100 [] Tryz.f126) :: []))) Tryz.f90) :: ((135, inlOf Tryz.prog (Zau N) Zaw 0 100 ((89, inlOf Tryz.prog (Zau N) Zaw 0 100 ((126, inlOf Tryz.prog (Zau N) Zaw 0 100 [] Tryz.f126) :: []) Tryz.f89) :: ((126, inlOf Tryz.prog (Zau N) Zaw 0 100 [] Tryz.f126) :: [])) Tryz.f135) :: ((89, inlOf Tryz.prog (Zau N) Zaw 0 100 ((126, inlOf Tryz.prog (Zau N) Zaw 0 100 [] Tryz.f126) :: []) Tryz.f89) :: ((126, inlOf Tryz.prog (Zau N) Zaw 0 100 [] Tryz.f126) :: [])))))
theorem Zrb (N : Nat) : InlAll Tryz.prog (Zau N) Zaw 0 100 (Zlm N) := ⟨⟨Tryz.f24, Tryz.func24, by kernel_rfl, by kernel_rfl, rfl⟩, ⟨⟨Tryz.f90, Tryz.func90, by kernel_rfl, by kernel_rfl, rfl⟩, ⟨⟨Tryz.f135, Tryz.func135, by kernel_rfl, by kernel_rfl, rfl⟩, ⟨⟨Tryz.f89, Tryz.func89, by kernel_rfl, by kernel_rfl, rfl⟩, ⟨⟨Tryz.f126, Tryz.func126, by kernel_rfl, by kernel_rfl, rfl⟩, trivial⟩⟩⟩⟩⟩
noncomputable def ZtR (N : Nat) : List (Nat × Lf) := []
theorem Zvk (N : Nat) : RunIs Tryz.prog (Zau N) Zaw 0 (ZtR N) Tryz.f7 Zmm Zmn (fun x => Zem N x) (fun g => lkI g (Zlm N)) := by
  intro x; kernel_rfl
theorem Zvl {w0 : World} (N : Nat)  (hcs : ∀ x ∈ Zau N, SoundAt Tryz.prog w0 x.1 x.2) : SoundAt Tryz.prog w0 7 (ZhF N) := by
  exact Zus hcs (Zaq _ _) (Zrb N) Tryz.func7 (by kernel_rfl) (by kernel_rfl) (S := 0) (fun w _ => Zal _) (fun _ => rfl) (Zvk N)
theorem Zvm {w0 : World} (N : Nat)  (Zai : GlobOK Tryz.prog w0 ZaD) (Zav : GlobOK Tryz.prog w0 Za7) (ZcK : GlobOK Tryz.prog w0 Zd4) : SoundAt Tryz.prog w0 7 (ZhF N) :=
  Zvl N (Zah (ZfG Zai Zav) (Zah (Zr4 ZcK) (Zah (Zsy N Zai) ZaH)))
abbrev Zmo : Ag (List Int) := (.one (.ints .i64 10))
abbrev Zmp : Pt (List Int) := (.ints .u64 5)
def ZhG (N : Nat) : Ct := fct Zmo Zmp fun x => ZcM N x
def Zfs (N : Nat) : List (FuncId × Ct) := []
def ZhH : List Gv := []
def Zgt : Fm ((Unit × Unit × Unit × Int)) ((List Int × Unit × List Int)) := ⟨(.cons 1 (.lit (.ptr 0 [] 35)) (.cons 2 (.lit (.ptr 1 [] 25)) (.cons 3 (.lit (.ptr 2 [] 25)) (.one 4 (.int .i64))))), (.cons 0 (.ints .i64 10) (.cons 1 (.lit (.ints .u64 5 [0, 0, 0, 0, 0])) (.one 2 (.ints .u64 5))))⟩
def Zgu : Fm ((Unit × Unit)) ((Unit × List Int)) := ⟨(.cons 2 (.lit (.ptr 1 [] 25)) (.one 3 (.lit (.ptr 2 [] 25)))), (.cons 1 (.lit (.ints .u64 5 [0, 0, 0, 0, 0])) (.one 2 (.ints .u64 5)))⟩
def Zgv : Fm (Unit) (Unit) := ⟨.nil, .nil⟩
noncomputable def ZhI (N : Nat) : List (Nat × Lf) := [(0, loopCt Zgt Zgu Zgv 4 (ZcS N) N)]
theorem Zn0 (N : Nat) : StepIs Tryz.prog (cxOf Tryz.f40 (Zfs N) ZhH 0) (ZhI N) Tryz.f40 0 4 Zgt Zgu Zgv (ZcS N) := by
  intro v; kernel_rfl
theorem Zvn (N : Nat) : RunIs Tryz.prog (Zfs N) ZhH 0 (ZhI N) Tryz.f40 Zmo Zmp (fun x => ZcM N x) := by
  intro x; kernel_rfl
theorem Zvo {w0 : World} (N : Nat)  (hcs : ∀ x ∈ Zfs N, SoundAt Tryz.prog w0 x.1 x.2) : SoundAt Tryz.prog w0 40 (ZhG N) := by
  have L0 : ∀ w, RowKit.Below w0.heap.size w0 w → LoopOK Tryz.prog (cxOf Tryz.f40 (Zfs N) ZhH 0) w 0 (.loop (loopBody Tryz.f40 0)) (loopCt Zgt Zgu Zgv 4 (ZcS N) N) :=
    Zbu hcs (ls := ZhI N) (n := 100) (by kernel_rfl) (Zn0 N) N fun w hw => ZaG (lp_no (by kernel_rfl) ZcL)
  exact Zak hcs (Zaq _ _) Tryz.func40 (by kernel_rfl) (by kernel_rfl) (S := 0) (fun w hw => ZaG (ZfD (L0 w hw) (by kernel_rfl) ZcL)) (fun _ => rfl) (Zvn N)
theorem Zvp {w0 : World} (N : Nat)  : SoundAt Tryz.prog w0 40 (ZhG N) :=
  Zvo N ZaH
abbrev ZnH : Ag ((List Int × List Int)) := (.cons (.ints .u8 32) (.one (.ints .u8 32)))
abbrev ZnI : Pt (Bool) := .bool
def Zim (N : Nat) : Ct := fct ZnH ZnI fun x => ZaN N x.1 x.2
def Zf4 (N : Nat) : List (FuncId × Ct) := []
def Zin : List Gv := []
def Zha : Fm ((Unit × Unit × Unit × Int)) ((List Int × List Int)) := ⟨(.cons 2 (.lit (.ptr 0 [] 58)) (.cons 3 (.lit (.ptr 1 [] 58)) (.cons 4 (.lit (.bool false)) (.one 5 (.int .i64))))), (.cons 0 (.ints .u8 32) (.one 1 (.ints .u8 32)))⟩
def Zhb : Fm (Unit) (Unit) := ⟨.nil, .nil⟩
def Zhc : Fm (Bool) (Unit) := ⟨(.one 4 .bool), .nil⟩
noncomputable def Zio (N : Nat) : List (Nat × Lf) := [(0, loopCt Zha Zhb Zhc 4 (ZbR N) N)]
theorem Zpp (N : Nat) : StepIs Tryz.prog (cxOf Tryz.f30 (Zf4 N) Zin 0) (Zio N) Tryz.f30 0 4 Zha Zhb Zhc (ZbR N) := by
  intro v; kernel_rfl
theorem Zxu (N : Nat) : RunIs Tryz.prog (Zf4 N) Zin 0 (Zio N) Tryz.f30 ZnH ZnI (fun x => ZaN N x.1 x.2) := by
  intro x; kernel_rfl
theorem Zxv {w0 : World} (N : Nat)  (hcs : ∀ x ∈ Zf4 N, SoundAt Tryz.prog w0 x.1 x.2) : SoundAt Tryz.prog w0 30 (Zim N) := by
  have L0 : ∀ w, RowKit.Below w0.heap.size w0 w → LoopOK Tryz.prog (cxOf Tryz.f30 (Zf4 N) Zin 0) w 0 (.loop (loopBody Tryz.f30 0)) (loopCt Zha Zhb Zhc 4 (ZbR N) N) :=
    Zbu hcs (ls := Zio N) (n := 100) (by kernel_rfl) (Zpp N) N fun w hw => ZaG (lp_no (by kernel_rfl) ZcL)
  exact Zak hcs (Zaq _ _) Tryz.func30 (by kernel_rfl) (by kernel_rfl) (S := 0) (fun w hw => ZaG (ZfD (L0 w hw) (by kernel_rfl) ZcL)) (fun _ => rfl) (Zxu N)
theorem Zxw {w0 : World} (N : Nat)  : SoundAt Tryz.prog w0 30 (Zim N) :=
  Zxv N ZaH
abbrev Zhs : Ag ((List Int × List Int)) := (.one (.agg (.cons (.ints .i64 10) (.one (.ints .i64 10)))))
abbrev Zht : Pt (List Int) := (.ints .u8 32)
def ZeI (N : Nat) : Ct := fct Zhs Zht fun x => ZaV N x
def Zhd (N : Nat) : List (FuncId × Ct) := [(50, (ZdV N)), (94, Zdw)]
def Zmq : List Gv := []
noncomputable def Zmr (N : Nat) : List (Nat × Lf) := []
theorem ZmL (N : Nat) : RunIs Tryz.prog (Zhd N) Zmq 0 (Zmr N) Tryz.f31 Zhs Zht (fun x => ZaV N x) := by
  intro x; kernel_rfl
theorem ZmM {w0 : World} (N : Nat)  (hcs : ∀ x ∈ Zhd N, SoundAt Tryz.prog w0 x.1 x.2) : SoundAt Tryz.prog w0 31 (ZeI N) := by
  exact Zak hcs (Zaq _ _) Tryz.func31 (by kernel_rfl) (by kernel_rfl) (S := 0) (fun w _ => Zal _) (fun _ => rfl) (ZmL N)
theorem ZmN {w0 : World} (N : Nat)  : SoundAt Tryz.prog w0 31 (ZeI N) :=
  ZmM N (Zah (ZhE N) (Zah (Zgr) ZaH))
abbrev ZiZ : Ag ((List Int × List Int)) := (.one (.agg (.one (.agg (.cons (.ints .i64 10) (.one (.ints .i64 10)))))))
abbrev Zi0 : Pt (((List Int × List Int) × (List Int × List Int) × (List Int × List Int) × (List Int × List Int))) := (.agg (.cons (.agg (.cons (.ints .i64 10) (.one (.ints .i64 10)))) (.cons (.agg (.cons (.ints .i64 10) (.one (.ints .i64 10)))) (.cons (.agg (.cons (.ints .i64 10) (.one (.ints .i64 10)))) (.one (.agg (.cons (.ints .i64 10) (.one (.ints .i64 10)))))))))
def ZfL (N : Nat) : Ct := fct ZiZ Zi0 fun x => ZbH N x
def ZiC (N : Nat) : List (FuncId × Ct) := [(28, (Zfc N)), (29, Zch), (30, (Zim N)), (31, (ZeI N))]
def Zpq : List Gv := []
noncomputable def Zpr (N : Nat) : List (Nat × Lf) := []
theorem Zp6 (N : Nat) : RunIs Tryz.prog (ZiC N) Zpq 0 (Zpr N) Tryz.f8 ZiZ Zi0 (fun x => ZbH N x) := by
  intro x; kernel_rfl
theorem Zp7 {w0 : World} (N : Nat)  (hcs : ∀ x ∈ ZiC N, SoundAt Tryz.prog w0 x.1 x.2) : SoundAt Tryz.prog w0 8 (ZfL N) := by
  exact Zak hcs (Zaq _ _) Tryz.func8 (by kernel_rfl) (by kernel_rfl) (S := 0) (fun w _ => Zal _) (fun _ => rfl) (Zp6 N)
theorem Zp8 {w0 : World} (N : Nat)  (Zae : GlobOK Tryz.prog w0 Zar) (Zag : GlobOK Tryz.prog w0 Zay) (Zaj : GlobOK Tryz.prog w0 ZaK) : SoundAt Tryz.prog w0 8 (ZfL N) :=
  Zp7 N (Zah (ZjU N Zae Zag) (Zah (Zdz Zaj) (Zah (Zxw N) (Zah (ZmN N) ZaH))))
abbrev ZqJ : Ag (((List Int × List Int × List Int × List Int) × (List Int × List Int))) := (.cons (.agg (.one (.agg (.cons (.ints .u64 5) (.cons (.ints .u64 5) (.cons (.ints .u64 5) (.one (.ints .u64 5)))))))) (.one (.agg (.cons (.ints .i64 10) (.one (.ints .i64 10))))))
abbrev ZqK : Pt (Bool) := .bool
def Zhq (N : Nat) : Ct := fct ZqJ ZqK fun x => Zdm N x.1 x.2
def Zps (N : Nat) : List (FuncId × Ct) := [(39, (ZdU N)), (40, (ZhG N))]
def Zzf : List Gv := []
noncomputable def Zzg (N : Nat) : List (Nat × Lf) := []
theorem ZAA (N : Nat) : RunIs Tryz.prog (Zps N) Zzf 0 (Zzg N) Tryz.f12 ZqJ ZqK (fun x => Zdm N x.1 x.2) := by
  intro x; kernel_rfl
theorem ZAB {w0 : World} (N : Nat)  (hcs : ∀ x ∈ Zps N, SoundAt Tryz.prog w0 x.1 x.2) : SoundAt Tryz.prog w0 12 (Zhq N) := by
  exact Zak hcs (Zaq _ _) Tryz.func12 (by kernel_rfl) (by kernel_rfl) (S := 0) (fun w _ => Zal _) (fun _ => rfl) (ZAA N)
theorem ZqL {w0 : World} (N : Nat)  (Zai : GlobOK Tryz.prog w0 ZaD) : SoundAt Tryz.prog w0 12 (Zhq N) :=
  ZAB N (Zah (ZhA N Zai) (Zah (Zvp N) ZaH))
abbrev Zug : Ag ((List Int × List Int)) := (.cons (.ints .u64 4) (.one (.ints .u64 4)))
abbrev Zuh : Pt ((List Int × Int)) := (.tup (.cons (.ints .u64 4) (.one (.int .u64))))
def Zhe : Ct := fct Zug Zuh fun x => ZgN x.1 x.2
def Zsz : List (FuncId × Ct) := [(158, Zwe)]
def ZCe : List Gv := []
noncomputable def ZCf : List (Nat × Lf) := []
theorem ZCL : RunIs Tryz.prog (Zsz) ZCe 0 (ZCf) Tryz.f143 Zug Zuh (fun x => ZgN x.1 x.2) := by
  intro x; kernel_rfl
theorem ZCM {w0 : World}  (hcs : ∀ x ∈ Zsz, SoundAt Tryz.prog w0 x.1 x.2) : SoundAt Tryz.prog w0 143 Zhe := by
  exact Zak hcs (Zaq _ _) Tryz.func143 (by kernel_rfl) (by kernel_rfl) (S := 0) (fun w _ => Zal _) (fun _ => rfl) (ZCL)
theorem Zn1 {w0 : World}  : SoundAt Tryz.prog w0 143 Zhe :=
  ZCM (Zah (ZFy) ZaH)
abbrev Zxx : Ag ((List Int × List Int)) := (.cons (.ints .u64 4) (.one (.ints .u64 4)))
abbrev Zxy : Pt ((List Int × Int)) := (.tup (.cons (.ints .u64 4) (.one (.int .u64))))
def Zj2 : Ct := fct Zxx Zxy fun x => ZjD x.1 x.2
def Zui : List (FuncId × Ct) := [(138, Zlu)]
def ZCN : List Gv := []
noncomputable def ZCO : List (Nat × Lf) := []
theorem ZEm : RunIs Tryz.prog (Zui) ZCN 0 (ZCO) Tryz.f144 Zxx Zxy (fun x => ZjD x.1 x.2) := by
  intro x; kernel_rfl
theorem ZEn {w0 : World}  (hcs : ∀ x ∈ Zui, SoundAt Tryz.prog w0 x.1 x.2) : SoundAt Tryz.prog w0 144 Zj2 := by
  exact Zak hcs (Zaq _ _) Tryz.func144 (by kernel_rfl) (by kernel_rfl) (S := 0) (fun w _ => Zal _) (fun _ => rfl) (ZEm)
theorem Zxz {w0 : World}  : SoundAt Tryz.prog w0 144 Zj2 :=
  ZEn (Zah (ZrO) ZaH)
abbrev ZsA : Ag ((Int × List Int × List Int)) := (.cons (.int .u64) (.cons (.ints .u64 4) (.one (.ints .u64 4))))
abbrev ZsB : Pt (List Int) := (.ints .u64 4)
def Zgl : Ct := tct ZsA ZsB fun x => Zec x.1 x.2.1 x.2.2
def ZqM : List (FuncId × Ct) := []
def ZAC : List Gv := []
noncomputable def ZAD : List (Nat × Lf) := []
theorem ZCg : RunIs Tryz.prog (ZqM) ZAC 0 (ZAD) Tryz.f146 ZsA ZsB (fun x => some (Zec x.1 x.2.1 x.2.2)) := by
  intro x; kernel_rfl
theorem ZCh {w0 : World}  (hcs : ∀ x ∈ ZqM, SoundAt Tryz.prog w0 x.1 x.2) : SoundAt Tryz.prog w0 146 Zgl := by
  exact Za9 (Zak hcs (Zaq _ _) Tryz.func146 (by kernel_rfl) (by kernel_rfl) (S := 0) (fun w _ => Zal _) (fun _ => rfl) (ZCg)) fun _ _ => rfl
theorem Zms {w0 : World}  : SoundAt Tryz.prog w0 146 Zgl :=
  ZCh ZaH
abbrev Zuj : Ag (List Int) := (.one (.ints .u64 4))
abbrev Zuk : Pt (List Int) := (.ints .u64 4)
def Zmt : Ct := fct Zuj Zuk fun x => Zj4 x
def ZsC : List (FuncId × Ct) := [(143, Zhe), (146, Zgl)]
def Zcn : List Gv := [⟨10, 178, (.agg [(.ints .u64 4 [6346243789798364141, 1503914060200516822, 0, 1152921504606846976]), (.ints .u64 4 [15486807595281847581, 14334777244411350896, 18446744073709551614, 1152921504606846975]), (.ints .u64 4 [11819153939886771969, 14991950615390032711, 14910419812499177061, 259310039853996605]), (.ints .u64 4 [6346243789798364139, 1503914060200516822, 0, 1152921504606846976])])⟩]
noncomputable def ZCi : List (Nat × Lf) := []
theorem ZCP : RunIs Tryz.prog (ZsC) Zcn 0 (ZCi) Tryz.f145 Zuj Zuk (fun x => Zj4 x) := by
  intro x; kernel_rfl
theorem ZCQ {w0 : World}  (hcs : ∀ x ∈ ZsC, SoundAt Tryz.prog w0 x.1 x.2) (hg : GlobOK Tryz.prog w0 Zcn) : SoundAt Tryz.prog w0 145 Zmt := by
  exact Zak hcs hg Tryz.func145 (by kernel_rfl) (by kernel_rfl) (S := 0) (fun w _ => Zal _) (fun _ => rfl) (ZCP)
theorem ZCR {w0 : World}  (Za5 : GlobOK Tryz.prog w0 Zcn) : SoundAt Tryz.prog w0 145 Zmt :=
  ZCQ (Zah (Zn1) (Zah (Zms) ZaH)) Za5
abbrev Zks : Ag (List Int) := (.one (.ints .u64 4))
abbrev Zkt : Pt (List Int) := (.ints .u64 4)
def ZdH : Ct := fct Zks Zkt fun x => Zcj x
def Zjs : List (FuncId × Ct) := [(137, Zlv), (138, Zlu), (143, Zhe), (144, Zj2), (145, Zmt), (146, Zgl)]
def Zbs : List Gv := [⟨10, 178, (.agg [(.ints .u64 4 [6346243789798364141, 1503914060200516822, 0, 1152921504606846976]), (.ints .u64 4 [15486807595281847581, 14334777244411350896, 18446744073709551614, 1152921504606846975]), (.ints .u64 4 [11819153939886771969, 14991950615390032711, 14910419812499177061, 259310039853996605]), (.ints .u64 4 [6346243789798364139, 1503914060200516822, 0, 1152921504606846976])])⟩]
noncomputable def Zrc : List (Nat × Lf) := []
theorem ZsD : RunIs Tryz.prog (Zjs) Zbs 0 (Zrc) Tryz.f107 Zks Zkt (fun x => Zcj x) := by
  intro x; kernel_rfl
theorem ZsE {w0 : World}  (hcs : ∀ x ∈ Zjs, SoundAt Tryz.prog w0 x.1 x.2) (hg : GlobOK Tryz.prog w0 Zbs) : SoundAt Tryz.prog w0 107 ZdH := by
  exact Zak hcs hg Tryz.func107 (by kernel_rfl) (by kernel_rfl) (S := 0) (fun w _ => Zal _) (fun _ => rfl) (ZsD)
theorem Zhf {w0 : World}  (Za5 : GlobOK Tryz.prog w0 Zcn) (ZaJ : GlobOK Tryz.prog w0 Zbs) : SoundAt Tryz.prog w0 107 ZdH :=
  ZsE (Zah (ZzP) (Zah (ZrO) (Zah (Zn1) (Zah (Zxz) (Zah (ZCR Za5) (Zah (Zms) ZaH)))))) ZaJ
abbrev Zjt : Ag (List Int) := (.one (.ints .u64 4))
abbrev Zju : Pt (List Int) := (.ints .u8 32)
def Zf5 (N : Nat) : Ct := fct Zjt Zju fun x => Zd6 N x
def Zef (N : Nat) : List (FuncId × Ct) := [(107, ZdH)]
def Zf6 : List Gv := []
def Zfj : Fm ((Unit × Unit × Unit × Int)) ((List Int × Unit × List Int)) := ⟨(.cons 1 (.lit (.ptr 0 [] 108)) (.cons 2 (.lit (.ptr 1 [] 58)) (.cons 3 (.lit (.ptr 5 [] 58)) (.one 7 (.int .i64))))), (.cons 0 (.ints .u64 4) (.cons 1 (.lit (.ints .u8 32 [0, 0, 0, 0, 0, 0, 0, 0, 0, 0, 0, 0, 0, 0, 0, 0, 0, 0, 0, 0, 0, 0, 0, 0, 0, 0, 0, 0, 0, 0, 0, 0])) (.one 5 (.ints .u8 32))))⟩
def Zfk : Fm ((Unit × Unit)) ((Unit × List Int)) := ⟨(.cons 2 (.lit (.ptr 1 [] 58)) (.one 3 (.lit (.ptr 5 [] 58)))), (.cons 1 (.lit (.ints .u8 32 [0, 0, 0, 0, 0, 0, 0, 0, 0, 0, 0, 0, 0, 0, 0, 0, 0, 0, 0, 0, 0, 0, 0, 0, 0, 0, 0, 0, 0, 0, 0, 0])) (.one 5 (.ints .u8 32)))⟩
def Zfl : Fm (Unit) (Unit) := ⟨.nil, .nil⟩
noncomputable def Zf7 (N : Nat) : List (Nat × Lf) := [(0, loopCt Zfj Zfk Zfl 7 (Zdp N) N)]
theorem ZlB (N : Nat) : StepIs Tryz.prog (cxOf Tryz.f148 (Zef N) Zf6 0) (Zf7 N) Tryz.f148 0 7 Zfj Zfk Zfl (Zdp N) := by
  intro v; kernel_rfl
theorem Zrd (N : Nat) : RunIs Tryz.prog (Zef N) Zf6 0 (Zf7 N) Tryz.f148 Zjt Zju (fun x => Zd6 N x) := by
  intro x; kernel_rfl
theorem Zre {w0 : World} (N : Nat)  (hcs : ∀ x ∈ Zef N, SoundAt Tryz.prog w0 x.1 x.2) : SoundAt Tryz.prog w0 148 (Zf5 N) := by
  have L0 : ∀ w, RowKit.Below w0.heap.size w0 w → LoopOK Tryz.prog (cxOf Tryz.f148 (Zef N) Zf6 0) w 0 (.loop (loopBody Tryz.f148 0)) (loopCt Zfj Zfk Zfl 7 (Zdp N) N) :=
    Zbu hcs (ls := Zf7 N) (n := 100) (by kernel_rfl) (ZlB N) N fun w hw => ZaG (lp_no (by kernel_rfl) ZcL)
  exact Zak hcs (Zaq _ _) Tryz.func148 (by kernel_rfl) (by kernel_rfl) (S := 0) (fun w hw => ZaG (ZfD (L0 w hw) (by kernel_rfl) ZcL)) (fun _ => rfl) (Zrd N)
theorem Zrf {w0 : World} (N : Nat)  (Za5 : GlobOK Tryz.prog w0 Zcn) (ZaJ : GlobOK Tryz.prog w0 Zbs) : SoundAt Tryz.prog w0 148 (Zf5 N) :=
  Zre N (Zah (Zhf Za5 ZaJ) ZaH)
abbrev Zmu : Ag (((List Int × List Int × List Int × List Int) × List Int)) := (.cons (.agg (.one (.agg (.cons (.ints .u64 5) (.cons (.ints .u64 5) (.cons (.ints .u64 5) (.one (.ints .u64 5)))))))) (.one (.ints .u64 4)))
abbrev Zmv : Pt ((List Int × List Int × List Int × List Int)) := (.agg (.one (.agg (.cons (.ints .u64 5) (.cons (.ints .u64 5) (.cons (.ints .u64 5) (.one (.ints .u64 5))))))))
def Zft (N : Nat) : Ct := fct Zmu Zmv fun x => Zdh N x.1 x.2
def Zln (N : Nat) : List (FuncId × Ct) := [(95, (ZdO N)), (148, (Zf5 N))]
def ZtS : List Gv := []
noncomputable def ZtT (N : Nat) : List (Nat × Lf) := []
theorem Zvq (N : Nat) : RunIs Tryz.prog (Zln N) ZtS 0 (ZtT N) Tryz.f110 Zmu Zmv (fun x => Zdh N x.1 x.2) := by
  intro x; kernel_rfl
theorem Zvr {w0 : World} (N : Nat)  (hcs : ∀ x ∈ Zln N, SoundAt Tryz.prog w0 x.1 x.2) : SoundAt Tryz.prog w0 110 (Zft N) := by
  exact Zak hcs (Zaq _ _) Tryz.func110 (by kernel_rfl) (by kernel_rfl) (S := 0) (fun w _ => Zal _) (fun _ => rfl) (Zvq N)
theorem Zmw {w0 : World} (N : Nat)  (Zai : GlobOK Tryz.prog w0 ZaD) (Zav : GlobOK Tryz.prog w0 Za7) (Za5 : GlobOK Tryz.prog w0 Zcn) (ZaJ : GlobOK Tryz.prog w0 Zbs) : SoundAt Tryz.prog w0 110 (Zft N) :=
  Zvr N (Zah (Ziy N Zai Zav) (Zah (Zrf N Za5 ZaJ) ZaH))
abbrev Zmx : Ag ((List Int × List Int)) := (.cons (.ints .u64 4) (.one (.ints .u64 4)))
abbrev Zmy : Pt (List Int) := (.ints .u64 4)
def ZhJ : Ct := fct Zmx Zmy fun x => Zfy x.1 x.2
def Zlo : List (FuncId × Ct) := [(107, ZdH), (143, Zhe), (144, Zj2), (146, Zgl)]
def ZcW : List Gv := [⟨10, 178, (.agg [(.ints .u64 4 [6346243789798364141, 1503914060200516822, 0, 1152921504606846976]), (.ints .u64 4 [15486807595281847581, 14334777244411350896, 18446744073709551614, 1152921504606846975]), (.ints .u64 4 [11819153939886771969, 14991950615390032711, 14910419812499177061, 259310039853996605]), (.ints .u64 4 [6346243789798364139, 1503914060200516822, 0, 1152921504606846976])])⟩]
noncomputable def ZtU : List (Nat × Lf) := []
theorem Zvs : RunIs Tryz.prog (Zlo) ZcW 0 (ZtU) Tryz.f147 Zmx Zmy (fun x => Zfy x.1 x.2) := by
  intro x; kernel_rfl
theorem Zvt {w0 : World}  (hcs : ∀ x ∈ Zlo, SoundAt Tryz.prog w0 x.1 x.2) (hg : GlobOK Tryz.prog w0 ZcW) : SoundAt Tryz.prog w0 147 ZhJ := by
  exact Zak hcs hg Tryz.func147 (by kernel_rfl) (by kernel_rfl) (S := 0) (fun w _ => Zal _) (fun _ => rfl) (Zvs)
theorem Zvu {w0 : World}  (Za5 : GlobOK Tryz.prog w0 Zcn) (ZaJ : GlobOK Tryz.prog w0 Zbs) (Zca : GlobOK Tryz.prog w0 ZcW) : SoundAt Tryz.prog w0 147 ZhJ :=
  Zvt (Zah (Zhf Za5 ZaJ) (Zah (Zn1) (Zah (Zxz) (Zah (Zms) ZaH)))) Zca
abbrev Zmz : Ag (List Int) := (.one (.ints .u64 4))
abbrev ZmA : Pt (List Int) := (.ints .u64 4)
def ZhK : Ct := fct Zmz ZmA fun x => Zfz x
def Zlp : List (FuncId × Ct) := [(147, ZhJ)]
def ZtV : List Gv := []
noncomputable def ZtW : List (Nat × Lf) := []
theorem Zvv : RunIs Tryz.prog (Zlp) ZtV 0 (ZtW) Tryz.f108 Zmz ZmA (fun x => Zfz x) := by
  intro x; kernel_rfl
theorem Zvw {w0 : World}  (hcs : ∀ x ∈ Zlp, SoundAt Tryz.prog w0 x.1 x.2) : SoundAt Tryz.prog w0 108 ZhK := by
  exact Zak hcs (Zaq _ _) Tryz.func108 (by kernel_rfl) (by kernel_rfl) (S := 0) (fun w _ => Zal _) (fun _ => rfl) (Zvv)
theorem Zvx {w0 : World}  (Za5 : GlobOK Tryz.prog w0 Zcn) (ZaJ : GlobOK Tryz.prog w0 Zbs) (Zca : GlobOK Tryz.prog w0 ZcW) : SoundAt Tryz.prog w0 108 ZhK :=
  Zvw (Zah (Zvu Za5 ZaJ Zca) ZaH)
abbrev ZCj : Ag (List Int) := (.one (.ints .u64 4))
abbrev ZCk : Pt (Bool) := .bool
def ZsF : Ct := tct ZCj ZCk fun x => Zog x
def Zz5 : List (FuncId × Ct) := []
def ZFR : List Gv := []
noncomputable def ZFS : List (Nat × Lf) := []
theorem ZGI : RunIs Tryz.prog (Zz5) ZFR 0 (ZFS) Tryz.f109 ZCj ZCk (fun x => some (Zog x)) := by
  intro x; kernel_rfl
theorem ZGJ {w0 : World}  (hcs : ∀ x ∈ Zz5, SoundAt Tryz.prog w0 x.1 x.2) : SoundAt Tryz.prog w0 109 ZsF := by
  exact Za9 (Zak hcs (Zaq _ _) Tryz.func109 (by kernel_rfl) (by kernel_rfl) (S := 0) (fun w _ => Zal _) (fun _ => rfl) (ZGI)) fun _ _ => rfl
theorem ZGK {w0 : World}  : SoundAt Tryz.prog w0 109 ZsF :=
  ZGJ ZaH
abbrev ZmB : Ag (((List Int × List Int × List Int × List Int) × List Int)) := (.cons (.agg (.one (.agg (.one (.agg (.cons (.ints .u64 5) (.cons (.ints .u64 5) (.cons (.ints .u64 5) (.one (.ints .u64 5)))))))))) (.one (.ints .u64 4)))
abbrev ZmC : Pt ((List Int × List Int × List Int × List Int)) := (.agg (.one (.agg (.one (.agg (.cons (.ints .u64 5) (.cons (.ints .u64 5) (.cons (.ints .u64 5) (.one (.ints .u64 5))))))))))
def ZhL (N : Nat) : Ct := fct ZmB ZmC fun x => ZfA N x.1 x.2
def Zlq (N : Nat) : List (FuncId × Ct) := [(100, Ze4), (107, ZdH), (108, ZhK), (109, ZsF), (110, (Zft N))]
def ZtX : List Gv := []
noncomputable def ZtY (N : Nat) : List (Nat × Lf) := []
theorem Zvy (N : Nat) : RunIs Tryz.prog (Zlq N) ZtX 0 (ZtY N) Tryz.f66 ZmB ZmC (fun x => ZfA N x.1 x.2) := by
  intro x; kernel_rfl
theorem Zvz {w0 : World} (N : Nat)  (hcs : ∀ x ∈ Zlq N, SoundAt Tryz.prog w0 x.1 x.2) : SoundAt Tryz.prog w0 66 (ZhL N) := by
  exact Zak hcs (Zaq _ _) Tryz.func66 (by kernel_rfl) (by kernel_rfl) (S := 0) (fun w _ => Zal _) (fun _ => rfl) (Zvy N)
theorem ZvA {w0 : World} (N : Nat)  (Zai : GlobOK Tryz.prog w0 ZaD) (Za5 : GlobOK Tryz.prog w0 Zcn) (ZaJ : GlobOK Tryz.prog w0 Zbs) (Zca : GlobOK Tryz.prog w0 ZcW) (Zav : GlobOK Tryz.prog w0 Za7) : SoundAt Tryz.prog w0 66 (ZhL N) :=
  Zvz N (Zah (ZjL Zai) (Zah (Zhf Za5 ZaJ) (Zah (Zvx Za5 ZaJ Zca) (Zah (ZGK) (Zah (Zmw N Zai Zav Za5 ZaJ) ZaH)))))
abbrev Zku : Ag ((List Int × List Int)) := (.one (.agg (.cons (.ints .i64 10) (.one (.ints .i64 10)))))
abbrev Zkv : Pt ((List Int × List Int)) := (.agg (.cons (.ints .i64 10) (.one (.ints .i64 10))))
def Zgw : Ct := tct Zku Zkv fun x => Zer x
def Zjv : List (FuncId × Ct) := [(83, Zcw)]
def Zrg : List Gv := []
noncomputable def Zrh : List (Nat × Lf) := []
theorem ZsG : RunIs Tryz.prog (Zjv) Zrg 0 (Zrh) Tryz.f106 Zku Zkv (fun x => some (Zer x)) := by
  intro x; kernel_rfl
theorem ZsH {w0 : World}  (hcs : ∀ x ∈ Zjv, SoundAt Tryz.prog w0 x.1 x.2) : SoundAt Tryz.prog w0 106 Zgw := by
  exact Za9 (Zak hcs (Zaq _ _) Tryz.func106 (by kernel_rfl) (by kernel_rfl) (S := 0) (fun w _ => Zal _) (fun _ => rfl) (ZsG)) fun _ _ => rfl
theorem ZsI {w0 : World}  (Zag : GlobOK Tryz.prog w0 Zay) : SoundAt Tryz.prog w0 106 Zgw :=
  ZsH (Zah (ZdL Zag) ZaH)
abbrev Zkw : Ag (((List Int × List Int × List Int) × (List Int × List Int × List Int) × List Int)) := (.cons (.agg (.cons (.ints .i64 10) (.cons (.ints .i64 10) (.one (.ints .i64 10))))) (.cons (.agg (.cons (.ints .i64 10) (.cons (.ints .i64 10) (.one (.ints .i64 10))))) (.one (.ints .i64 10))))
abbrev Zkx : Pt ((List Int × List Int × List Int)) := (.agg (.cons (.ints .i64 10) (.cons (.ints .i64 10) (.one (.ints .i64 10)))))
def Zgx (N : Nat) : Ct := fct Zkw Zkx fun x => Zb3 N x.1 x.2.1 x.2.2
def Zjw (N : Nat) : List (FuncId × Ct) := [(46, (Zcx N)), (47, (Zce N)), (82, (Zbd N))]
def Zri : List Gv := []
noncomputable def Zrj (N : Nat) : List (Nat × Lf) := []
theorem ZsJ (N : Nat) : RunIs Tryz.prog (Zjw N) Zri 0 (Zrj N) Tryz.f149 Zkw Zkx (fun x => Zb3 N x.1 x.2.1 x.2.2) := by
  intro x; kernel_rfl
theorem ZsK {w0 : World} (N : Nat)  (hcs : ∀ x ∈ Zjw N, SoundAt Tryz.prog w0 x.1 x.2) : SoundAt Tryz.prog w0 149 (Zgx N) := by
  exact Zak hcs (Zaq _ _) Tryz.func149 (by kernel_rfl) (by kernel_rfl) (S := 0) (fun w _ => Zal _) (fun _ => rfl) (ZsJ N)
theorem ZsL {w0 : World} (N : Nat)  (Zae : GlobOK Tryz.prog w0 Zar) (Zag : GlobOK Tryz.prog w0 Zay) : SoundAt Tryz.prog w0 149 (Zgx N) :=
  ZsK N (Zah (ZdM N Zae Zag) (Zah (Zdk N Zae) (Zah (ZbE N Zae) ZaH)))
abbrev Zi1 : Ag (((List Int × List Int) × List Int)) := (.cons (.agg (.cons (.ints .i64 10) (.one (.ints .i64 10)))) (.one (.ints .u8 32)))
abbrev Zi2 : Pt ((List Int × List Int)) := (.agg (.cons (.ints .i64 10) (.one (.ints .i64 10))))
def Zdl (N : Nat) : Ct := fct Zi1 Zi2 fun x => Zcg N x.1 x.2
def ZdY (N : Nat) : List (FuncId × Ct) := [(80, Zel), (82, (Zbd N)), (86, (Zb2 N)), (149, (Zgx N))]
def Zbh : List Gv := [⟨2, 35, (.ints .i64 10 [1, 0, 0, 0, 0, 0, 0, 0, 0, 0])⟩]
def ZeM : Fm ((Unit × Unit × Unit × Unit × Unit × Bool × Int)) ((Unit × List Int × Unit × List Int × (List Int × List Int × List Int) × (List Int × List Int × List Int))) := ⟨(.cons 3 (.lit (.ptr 2 [] 58)) (.cons 4 (.lit (.ptr 3 [] 37)) (.cons 5 (.lit (.ptr 5 [] 35)) (.cons 6 (.lit (.ptr 13 [] 184)) (.cons 7 (.lit (.ptr 18 [] 184)) (.cons 8 .bool (.one 9 (.int .i64)))))))), (.cons 0 (.lit (.ints .i64 10 [1, 0, 0, 0, 0, 0, 0, 0, 0, 0])) (.cons 2 (.ints .u8 32) (.cons 3 (.lit (.agg [(.ints .i64 10 [0, 0, 0, 0, 0, 0, 0, 0, 0, 0]), (.ints .i64 10 [0, 0, 0, 0, 0, 0, 0, 0, 0, 0])])) (.cons 5 (.ints .i64 10) (.cons 13 (.agg (.cons (.ints .i64 10) (.cons (.ints .i64 10) (.one (.ints .i64 10))))) (.one 18 (.agg (.cons (.ints .i64 10) (.cons (.ints .i64 10) (.one (.ints .i64 10)))))))))))⟩
def ZeN : Fm ((Unit × Unit)) ((Unit × Unit × (List Int × List Int × List Int))) := ⟨(.cons 4 (.lit (.ptr 3 [] 37)) (.one 7 (.lit (.ptr 18 [] 184)))), (.cons 0 (.lit (.ints .i64 10 [1, 0, 0, 0, 0, 0, 0, 0, 0, 0])) (.cons 3 (.lit (.agg [(.ints .i64 10 [0, 0, 0, 0, 0, 0, 0, 0, 0, 0]), (.ints .i64 10 [0, 0, 0, 0, 0, 0, 0, 0, 0, 0])])) (.one 18 (.agg (.cons (.ints .i64 10) (.cons (.ints .i64 10) (.one (.ints .i64 10))))))))⟩
def ZeO : Fm (Unit) (Unit) := ⟨.nil, .nil⟩
noncomputable def ZfM (N : Nat) : List (Nat × Lf) := [(0, loopCt ZeM ZeN ZeO 22 (Zbr N) N)]
theorem ZkO (N : Nat) : StepIs Tryz.prog (cxOf Tryz.f111 (ZdY N) Zbh 0) (ZfM N) Tryz.f111 0 22 ZeM ZeN ZeO (Zbr N) := by
  intro v; kernel_rfl
theorem Zp9 (N : Nat) : RunIs Tryz.prog (ZdY N) Zbh 0 (ZfM N) Tryz.f111 Zi1 Zi2 (fun x => Zcg N x.1 x.2) := by
  intro x; kernel_rfl
theorem Zqa {w0 : World} (N : Nat)  (hcs : ∀ x ∈ ZdY N, SoundAt Tryz.prog w0 x.1 x.2) (hg : GlobOK Tryz.prog w0 Zbh) : SoundAt Tryz.prog w0 111 (Zdl N) := by
  have L0 : ∀ w, RowKit.Below w0.heap.size w0 w → LoopOK Tryz.prog (cxOf Tryz.f111 (ZdY N) Zbh 0) w 0 (.loop (loopBody Tryz.f111 0)) (loopCt ZeM ZeN ZeO 22 (Zbr N) N) :=
    Zbu hcs (ls := ZfM N) (n := 100) (by kernel_rfl) (ZkO N) N fun w hw => ZaG (lp_no (by kernel_rfl) ZcL)
  exact Zak hcs hg Tryz.func111 (by kernel_rfl) (by kernel_rfl) (S := 0) (fun w hw => ZaG (ZfD (L0 w hw) (by kernel_rfl) ZcL)) (fun _ => rfl) (Zp9 N)
theorem Zf8 {w0 : World} (N : Nat)  (Zae : GlobOK Tryz.prog w0 Zar) (Zag : GlobOK Tryz.prog w0 Zay) (ZaO : GlobOK Tryz.prog w0 Zbh) : SoundAt Tryz.prog w0 111 (Zdl N) :=
  Zqa N (Zah (Zhn) (Zah (ZbE N Zae) (Zah (ZcU N Zae) (Zah (ZsL N Zae Zag) ZaH)))) ZaO
abbrev Zpt : Ag (Unit) := .nil
abbrev Zpu : Pt (List Int) := (.ints .u8 32)
def Zi3 : Ct := tct Zpt Zpu fun x => ZgM
def ZnJ : List (FuncId × Ct) := []
def ZxA : List Gv := []
noncomputable def ZxB : List (Nat × Lf) := []
theorem Zzh : RunIs Tryz.prog (ZnJ) ZxA 0 (ZxB) Tryz.f151 Zpt Zpu (fun x => some (ZgM)) := by
  intro x; kernel_rfl
theorem Zzi {w0 : World}  (hcs : ∀ x ∈ ZnJ, SoundAt Tryz.prog w0 x.1 x.2) : SoundAt Tryz.prog w0 151 Zi3 := by
  exact Za9 (Zak hcs (Zaq _ _) Tryz.func151 (by kernel_rfl) (by kernel_rfl) (S := 0) (fun w _ => Zal _) (fun _ => rfl) (Zzh)) fun _ _ => rfl
theorem Zzj {w0 : World}  : SoundAt Tryz.prog w0 151 Zi3 :=
  Zzi ZaH
abbrev Zjx : Ag ((List Int × List Int)) := (.one (.agg (.cons (.ints .i64 10) (.one (.ints .i64 10)))))
abbrev Zjy : Pt (Bool) := .bool
def Zf9 (N : Nat) : Ct := fct Zjx Zjy fun x => Zdy N x
def Zi4 (N : Nat) : List (FuncId × Ct) := [(93, ZcV), (111, (Zdl N)), (151, Zi3)]
def Zqb : List Gv := []
noncomputable def Zqc (N : Nat) : List (Nat × Lf) := []
theorem Zrk (N : Nat) : RunIs Tryz.prog (Zi4 N) Zqb 0 (Zqc N) Tryz.f118 Zjx Zjy (fun x => Zdy N x) := by
  intro x; kernel_rfl
theorem Zrl {w0 : World} (N : Nat)  (hcs : ∀ x ∈ Zi4 N, SoundAt Tryz.prog w0 x.1 x.2) : SoundAt Tryz.prog w0 118 (Zf9 N) := by
  exact Zak hcs (Zaq _ _) Tryz.func118 (by kernel_rfl) (by kernel_rfl) (S := 0) (fun w _ => Zal _) (fun _ => rfl) (Zrk N)
theorem Zrm {w0 : World} (N : Nat)  (Zaj : GlobOK Tryz.prog w0 ZaK) (Zae : GlobOK Tryz.prog w0 Zar) (Zag : GlobOK Tryz.prog w0 Zay) (ZaO : GlobOK Tryz.prog w0 Zbh) : SoundAt Tryz.prog w0 118 (Zf9 N) :=
  Zrl N (Zah (ZeE Zaj) (Zah (Zf8 N Zae Zag ZaO) (Zah (Zzj) ZaH)))
abbrev ZmD : Ag (Int) := (.one (.int .i64))
abbrev ZmE : Pt ((List Int × List Int)) := (.agg (.cons (.ints .i64 10) (.one (.ints .i64 10))))
def ZhM (N : Nat) : Ct := fct ZmD ZmE fun x => Zfv N x
def ZdB (N : Nat) : List (FuncId × Ct) := [(47, (Zce N)), (82, (Zbd N)), (88, (Zc1 N)), (93, ZcV), (140, (ZgF N))]
def ZbW : List Gv := [⟨5, 35, (.ints .i64 10 [0, 0, 0, 0, 0, 0, 0, 0, 0, 0])⟩]
noncomputable def Zfu (N : Nat) : List (FuncId × Inl) := ((152, inlOf Tryz.prog (ZdB N) ZbW 0 100 [] Tryz.f152) :: [])
theorem Zjz (N : Nat) : InlAll Tryz.prog (ZdB N) ZbW 0 100 (Zfu N) := ⟨⟨Tryz.f152, Tryz.func152, by kernel_rfl, by kernel_rfl, rfl⟩, trivial⟩
def Zgy : Fm ((Int × Unit × Unit × Unit × Int)) ((Unit × Unit × (List Int × List Int) × (List Int × List Int))) := ⟨(.cons 0 (.int .i64) (.cons 2 (.lit (.ptr 1 [] 37)) (.cons 3 (.lit (.ptr 2797 [] 37)) (.cons 4 (.lit (.ptr 2800 [] 37)) (.one 5 (.int .i64)))))), (.cons 0 (.lit (.ints .i64 10 [0, 0, 0, 0, 0, 0, 0, 0, 0, 0])) (.cons 1 (.lit (.agg [(.ints .i64 10 [0, 0, 0, 0, 0, 0, 0, 0, 0, 0]), (.ints .i64 10 [0, 0, 0, 0, 0, 0, 0, 0, 0, 0])])) (.cons 2797 (.agg (.cons (.ints .i64 10) (.one (.ints .i64 10)))) (.one 2800 (.agg (.cons (.ints .i64 10) (.one (.ints .i64 10))))))))⟩
def Zgz : Fm ((Unit × Unit)) ((Unit × Unit × (List Int × List Int))) := ⟨(.cons 2 (.lit (.ptr 1 [] 37)) (.one 4 (.lit (.ptr 2800 [] 37)))), (.cons 0 (.lit (.ints .i64 10 [0, 0, 0, 0, 0, 0, 0, 0, 0, 0])) (.cons 1 (.lit (.agg [(.ints .i64 10 [0, 0, 0, 0, 0, 0, 0, 0, 0, 0]), (.ints .i64 10 [0, 0, 0, 0, 0, 0, 0, 0, 0, 0])])) (.one 2800 (.agg (.cons (.ints .i64 10) (.one (.ints .i64 10)))))))⟩
def ZgA : Fm (Unit) (Unit) := ⟨.nil, .nil⟩
noncomputable def ZhN (N : Nat) : List (Nat × Lf) := [(0, loopCt Zgy Zgz ZgA 2803 (ZbG N) N)]
theorem Zn2 (N : Nat) : StepIs Tryz.prog (cxIn Tryz.f119 (ZdB N) ZbW 0 (Zfu N)) (ZhN N) Tryz.f119 0 2803 Zgy Zgz ZgA (ZbG N) := by
  intro v; kernel_rfl
theorem ZvB (N : Nat) : RunIs Tryz.prog (ZdB N) ZbW 0 (ZhN N) Tryz.f119 ZmD ZmE (fun x => Zfv N x) (fun g => lkI g (Zfu N)) := by
  intro x; kernel_rfl
theorem ZvC {w0 : World} (N : Nat)  (hcs : ∀ x ∈ ZdB N, SoundAt Tryz.prog w0 x.1 x.2) (hg : GlobOK Tryz.prog w0 ZbW) : SoundAt Tryz.prog w0 119 (ZhM N) := by
  have L0 : ∀ w, RowKit.Below w0.heap.size w0 w → LoopOK Tryz.prog (cxIn Tryz.f119 (ZdB N) ZbW 0 (Zfu N)) w 0 (.loop (loopBody Tryz.f119 0)) (loopCt Zgy Zgz ZgA 2803 (ZbG N) N) :=
    ZDJ hcs (Zjz N) (ls := ZhN N) (n := 100) (by kernel_rfl) (Zn2 N) N fun w hw => ZaG (lp_no (by kernel_rfl) ZcL)
  exact Zus hcs hg (Zjz N) Tryz.func119 (by kernel_rfl) (by kernel_rfl) (S := 0) (fun w hw => ZaG (ZfD (L0 w hw) (by kernel_rfl) ZcL)) (fun _ => rfl) (ZvB N)
theorem ZvD {w0 : World} (N : Nat)  (Zae : GlobOK Tryz.prog w0 Zar) (Zag : GlobOK Tryz.prog w0 Zay) (ZaA : GlobOK Tryz.prog w0 Zbi) (Zaj : GlobOK Tryz.prog w0 ZaK) (ZcX : GlobOK Tryz.prog w0 ZbW) : SoundAt Tryz.prog w0 119 (ZhM N) :=
  ZvC N (Zah (Zdk N Zae) (Zah (ZbE N Zae) (Zah (Zfb N Zae Zag ZaA) (Zah (ZeE Zaj) (Zah (ZoZ N Zae) ZaH))))) ZcX
abbrev ZxC : Ag (Unit) := .nil
abbrev ZxD : Pt (List Int) := (.ints .u64 4)
def Zn3 : Ct := tct ZxC ZxD fun x => Zcz
def Zul : List (FuncId × Ct) := []
def ZCS : List Gv := []
noncomputable def ZCT : List (Nat × Lf) := []
theorem ZEo : RunIs Tryz.prog (Zul) ZCS 0 (ZCT) Tryz.f159 ZxC ZxD (fun x => some (Zcz)) := by
  intro x; kernel_rfl
theorem ZEp {w0 : World}  (hcs : ∀ x ∈ Zul, SoundAt Tryz.prog w0 x.1 x.2) : SoundAt Tryz.prog w0 159 Zn3 := by
  exact Za9 (Zak hcs (Zaq _ _) Tryz.func159 (by kernel_rfl) (by kernel_rfl) (S := 0) (fun w _ => Zal _) (fun _ => rfl) (ZEo)) fun _ _ => rfl
theorem ZEq {w0 : World}  : SoundAt Tryz.prog w0 159 Zn3 :=
  ZEp ZaH
abbrev Zpv : Ag ((List Int × List Int)) := (.cons (.ints .u64 4) (.one (.ints .u64 4)))
abbrev Zpw : Pt (Bool) := .bool
def Zi5 : Ct := tct Zpv Zpw fun x => Zdo x.1 x.2
def ZnK : List (FuncId × Ct) := []
def ZxE : List Gv := []
noncomputable def ZxF : List (Nat × Lf) := []
theorem Zzk : RunIs Tryz.prog (ZnK) ZxE 0 (ZxF) Tryz.f162 Zpv Zpw (fun x => ZjJ x.1 x.2) := by
  intro x; kernel_rfl
theorem Zzl {w0 : World}  (hcs : ∀ x ∈ ZnK, SoundAt Tryz.prog w0 x.1 x.2) : SoundAt Tryz.prog w0 162 Zi5 := by
  exact Za9 (Zak hcs (Zaq _ _) Tryz.func162 (by kernel_rfl) (by kernel_rfl) (S := 0) (fun w _ => Zal _) (fun _ => rfl) (Zzk)) fun _ _ => ZuD _ _
theorem Zzm {w0 : World}  : SoundAt Tryz.prog w0 162 Zi5 :=
  Zzl ZaH
abbrev ZqN : Ag ((List Int × List Int)) := (.cons (.ints .u64 4) (.one (.ints .u64 4)))
abbrev ZqO : Pt ((List Int × Int)) := (.tup (.cons (.ints .u64 4) (.one (.int .u64))))
def ZjW (N : Nat) : Ct := fct ZqN ZqO fun x => ZhU N x.1 x.2
def Zhr (N : Nat) : List (FuncId × Ct) := []
def ZjX : List Gv := []
def Zip : Fm ((Unit × Unit × Unit × Unit × Unit × Int × Int)) ((List Int × List Int × Unit × List Int)) := ⟨(.cons 2 (.lit (.ptr 0 [] 110)) (.cons 3 (.lit (.ptr 1 [] 110)) (.cons 4 (.lit (.ptr 2 [] 110)) (.cons 5 (.lit (.int .u64 0)) (.cons 6 (.lit (.ptr 4 [] 110)) (.cons 7 (.int .u64) (.one 8 (.int .i64)))))))), (.cons 0 (.ints .u64 4) (.cons 1 (.ints .u64 4) (.cons 2 (.lit (.ints .u64 4 [0, 0, 0, 0])) (.one 4 (.ints .u64 4)))))⟩
def Ziq : Fm ((Unit × Unit × Int)) ((Unit × List Int)) := ⟨(.cons 4 (.lit (.ptr 2 [] 110)) (.cons 6 (.lit (.ptr 4 [] 110)) (.one 7 (.int .u64)))), (.cons 2 (.lit (.ints .u64 4 [0, 0, 0, 0])) (.one 4 (.ints .u64 4)))⟩
def Zir : Fm (Unit) (Unit) := ⟨.nil, .nil⟩
noncomputable def ZjY (N : Nat) : List (Nat × Lf) := [(0, loopCt Zip Ziq Zir 7 (Zdd N) N)]
theorem Zrn (N : Nat) : StepIs Tryz.prog (cxOf Tryz.f161 (Zhr N) ZjX 0) (ZjY N) Tryz.f161 0 7 Zip Ziq Zir (Zdd N) := by
  intro v; kernel_rfl
theorem ZAE (N : Nat) : RunIs Tryz.prog (Zhr N) ZjX 0 (ZjY N) Tryz.f161 ZqN ZqO (fun x => ZhU N x.1 x.2) := by
  intro x; kernel_rfl
theorem ZAF {w0 : World} (N : Nat)  (hcs : ∀ x ∈ Zhr N, SoundAt Tryz.prog w0 x.1 x.2) : SoundAt Tryz.prog w0 161 (ZjW N) := by
  have L0 : ∀ w, RowKit.Below w0.heap.size w0 w → LoopOK Tryz.prog (cxOf Tryz.f161 (Zhr N) ZjX 0) w 0 (.loop (loopBody Tryz.f161 0)) (loopCt Zip Ziq Zir 7 (Zdd N) N) :=
    Zbu hcs (ls := ZjY N) (n := 100) (by kernel_rfl) (Zrn N) N fun w hw => ZaG (lp_no (by kernel_rfl) ZcL)
  exact Zak hcs (Zaq _ _) Tryz.func161 (by kernel_rfl) (by kernel_rfl) (S := 0) (fun w hw => ZaG (ZfD (L0 w hw) (by kernel_rfl) ZcL)) (fun _ => rfl) (ZAE N)
theorem ZAG {w0 : World} (N : Nat)  : SoundAt Tryz.prog w0 161 (ZjW N) :=
  ZAF N ZaH
abbrev Zpx : Ag ((List Int × List Int)) := (.cons (.ints .u64 4) (.one (.ints .u64 4)))
abbrev Zpy : Pt ((List Int × Int)) := (.tup (.cons (.ints .u64 4) (.one (.int .u64))))
def Zi6 (N : Nat) : Ct := fct Zpx Zpy fun x => Zes N x.1 x.2
def ZgJ (N : Nat) : List (FuncId × Ct) := []
def Zi7 : List Gv := []
def ZhO : Fm ((Unit × Unit × Unit × Unit × Unit × Int × Int)) ((List Int × List Int × Unit × List Int)) := ⟨(.cons 2 (.lit (.ptr 0 [] 110)) (.cons 3 (.lit (.ptr 1 [] 110)) (.cons 4 (.lit (.ptr 2 [] 110)) (.cons 5 (.lit (.int .u64 0)) (.cons 6 (.lit (.ptr 4 [] 110)) (.cons 7 (.int .u64) (.one 8 (.int .i64)))))))), (.cons 0 (.ints .u64 4) (.cons 1 (.ints .u64 4) (.cons 2 (.lit (.ints .u64 4 [0, 0, 0, 0])) (.one 4 (.ints .u64 4)))))⟩
def ZhP : Fm ((Unit × Unit × Int)) ((Unit × List Int)) := ⟨(.cons 4 (.lit (.ptr 2 [] 110)) (.cons 6 (.lit (.ptr 4 [] 110)) (.one 7 (.int .u64)))), (.cons 2 (.lit (.ints .u64 4 [0, 0, 0, 0])) (.one 4 (.ints .u64 4)))⟩
def ZhQ : Fm (Unit) (Unit) := ⟨.nil, .nil⟩
noncomputable def Zi8 (N : Nat) : List (Nat × Lf) := [(0, loopCt ZhO ZhP ZhQ 7 (ZcY N) N)]
theorem Zqd (N : Nat) : StepIs Tryz.prog (cxOf Tryz.f160 (ZgJ N) Zi7 0) (Zi8 N) Tryz.f160 0 7 ZhO ZhP ZhQ (ZcY N) := by
  intro v; kernel_rfl
theorem Zzn (N : Nat) : RunIs Tryz.prog (ZgJ N) Zi7 0 (Zi8 N) Tryz.f160 Zpx Zpy (fun x => Zes N x.1 x.2) := by
  intro x; kernel_rfl
theorem Zzo {w0 : World} (N : Nat)  (hcs : ∀ x ∈ ZgJ N, SoundAt Tryz.prog w0 x.1 x.2) : SoundAt Tryz.prog w0 160 (Zi6 N) := by
  have L0 : ∀ w, RowKit.Below w0.heap.size w0 w → LoopOK Tryz.prog (cxOf Tryz.f160 (ZgJ N) Zi7 0) w 0 (.loop (loopBody Tryz.f160 0)) (loopCt ZhO ZhP ZhQ 7 (ZcY N) N) :=
    Zbu hcs (ls := Zi8 N) (n := 100) (by kernel_rfl) (Zqd N) N fun w hw => ZaG (lp_no (by kernel_rfl) ZcL)
  exact Zak hcs (Zaq _ _) Tryz.func160 (by kernel_rfl) (by kernel_rfl) (S := 0) (fun w hw => ZaG (ZfD (L0 w hw) (by kernel_rfl) ZcL)) (fun _ => rfl) (Zzn N)
theorem Zzp {w0 : World} (N : Nat)  : SoundAt Tryz.prog w0 160 (Zi6 N) :=
  Zzo N ZaH
abbrev ZqP : Ag ((List Int × Int)) := (.cons (.ints .u64 4) (.one (.int .u64)))
abbrev ZqQ : Pt (List Int) := (.ints .u64 4)
def ZjZ (N : Nat) : Ct := fct ZqP ZqQ fun x => ZhV N x.1 x.2
def Zpz (N : Nat) : List (FuncId × Ct) := [(159, Zn3), (160, (Zi6 N)), (161, (ZjW N)), (162, Zi5)]
def Zzq : List Gv := []
noncomputable def Zzr (N : Nat) : List (Nat × Lf) := []
theorem ZAH (N : Nat) : RunIs Tryz.prog (Zpz N) Zzq 0 (Zzr N) Tryz.f150 ZqP ZqQ (fun x => ZhV N x.1 x.2) := by
  intro x; kernel_rfl
theorem ZAI {w0 : World} (N : Nat)  (hcs : ∀ x ∈ Zpz N, SoundAt Tryz.prog w0 x.1 x.2) : SoundAt Tryz.prog w0 150 (ZjZ N) := by
  exact Zak hcs (Zaq _ _) Tryz.func150 (by kernel_rfl) (by kernel_rfl) (S := 0) (fun w _ => Zal _) (fun _ => rfl) (ZAH N)
theorem ZAJ {w0 : World} (N : Nat)  : SoundAt Tryz.prog w0 150 (ZjZ N) :=
  ZAI N (Zah (ZEq) (Zah (Zzp N) (Zah (ZAG N) (Zah (Zzm) ZaH))))
abbrev ZpA : Ag (((Nat × List Int) × Unit)) := (.one (.tup (.cons (.lst .u64) (.one (.lit (.clo 24 []))))))
abbrev ZpB : Pt (List Int) := (.ints .u64 4)
def Zi9 (N : Nat) : Ct := fct ZpA ZpB fun x => ZiG N x
def ZgK (N : Nat) : List (FuncId × Ct) := [(150, (ZjZ N))]
def Zja : List Gv := []
def ZhR : Fm ((Nat × Unit × Unit × Int)) (((Nat × List Int) × Unit × List Int)) := ⟨(.cons 0 (.slw 0 24) (.cons 2 (.lit (.ptr 1 [] 110)) (.cons 3 (.lit (.ptr 2 [] 110)) (.one 4 (.int .i64))))), (.cons 0 (.lst .u64) (.cons 1 (.lit (.ints .u64 4 [0, 0, 0, 0])) (.one 2 (.ints .u64 4))))⟩
def ZhS : Fm ((Unit × Unit)) ((Unit × List Int)) := ⟨(.cons 2 (.lit (.ptr 1 [] 110)) (.one 3 (.lit (.ptr 2 [] 110)))), (.cons 1 (.lit (.ints .u64 4 [0, 0, 0, 0])) (.one 2 (.ints .u64 4)))⟩
def ZhT : Fm (Unit) (Unit) := ⟨.nil, .nil⟩
noncomputable def Zjb (N : Nat) : List (Nat × Lf) := [(0, loopCt ZhR ZhS ZhT 7 (ZbZ N) N)]
theorem Zqe (N : Nat) : StepIs Tryz.prog (cxOf Tryz.f113 (ZgK N) Zja 1) (Zjb N) Tryz.f113 0 7 ZhR ZhS ZhT (ZbZ N) := by
  intro v; kernel_rfl
theorem Zzs (N : Nat) : RunIs Tryz.prog (ZgK N) Zja 1 (Zjb N) Tryz.f113 ZpA ZpB (fun x => ZiG N x) := by
  intro x; kernel_rfl
theorem Zzt {w0 : World} (N : Nat)  (hcs : ∀ x ∈ ZgK N, SoundAt Tryz.prog w0 x.1 x.2) : SoundAt Tryz.prog w0 113 (Zi9 N) := by
  have L0 : ∀ w, RowKit.Below w0.heap.size w0 w → LoopOK Tryz.prog (cxOf Tryz.f113 (ZgK N) Zja 1) w 0 (.loop (loopBody Tryz.f113 0)) (loopCt ZhR ZhS ZhT 7 (ZbZ N) N) :=
    Zbu hcs (ls := Zjb N) (n := 100) (by kernel_rfl) (Zqe N) N fun w hw => ZaG (lp_no (by kernel_rfl) ZcL)
  exact Zak hcs (Zaq _ _) Tryz.func113 (by kernel_rfl) (by kernel_rfl) (S := 1) (fun w hw => ZaG (ZfD (L0 w hw) (by kernel_rfl) ZcL)) (fun _ => rfl) (Zzs N)
theorem Zzu {w0 : World} (N : Nat)  : SoundAt Tryz.prog w0 113 (Zi9 N) :=
  Zzt N (Zah (ZAJ N) ZaH)
abbrev ZpC : Ag (List Int) := (.one (.ints .u64 4))
abbrev ZpD : Pt (List Int) := (.ints .u64 4)
def ZgL (N : Nat) : Ct := fct ZpC ZpD fun x => Zfw N x
def ZnL (N : Nat) : List (FuncId × Ct) := [(113, (Zi9 N))]
def ZxG : List Gv := []
noncomputable def ZxH (N : Nat) : List (Nat × Lf) := []
theorem Zzv (N : Nat) : RunIs Tryz.prog (ZnL N) ZxG 0 (ZxH N) Tryz.f68 ZpC ZpD (fun x => Zfw N x) := by
  intro x; kernel_rfl
theorem Zzw {w0 : World} (N : Nat)  (hcs : ∀ x ∈ ZnL N, SoundAt Tryz.prog w0 x.1 x.2) : SoundAt Tryz.prog w0 68 (ZgL N) := by
  exact Zak hcs (Zaq _ _) Tryz.func68 (by kernel_rfl) (by kernel_rfl) (S := 0) (fun w _ => Zal _) (fun _ => rfl) (Zzv N)
theorem ZpE {w0 : World} (N : Nat)  : SoundAt Tryz.prog w0 68 (ZgL N) :=
  Zzw N (Zah (Zzu N) ZaH)
abbrev Zh0 : Ag (List Int) := (.one (.ints .u64 4))
abbrev Zh1 : Pt (List Int) := (.ints .u8 32)
def ZdD (N : Nat) : Ct := fct Zh0 Zh1 fun x => ZcN N x
def ZdE (N : Nat) : List (FuncId × Ct) := []
def ZeP : List Gv := []
def Zeg : Fm ((Unit × Unit × Unit × Int)) ((List Int × Unit × List Int)) := ⟨(.cons 1 (.lit (.ptr 0 [] 110)) (.cons 2 (.lit (.ptr 1 [] 58)) (.cons 3 (.lit (.ptr 2 [] 58)) (.one 4 (.int .i64))))), (.cons 0 (.ints .u64 4) (.cons 1 (.lit (.ints .u8 32 [0, 0, 0, 0, 0, 0, 0, 0, 0, 0, 0, 0, 0, 0, 0, 0, 0, 0, 0, 0, 0, 0, 0, 0, 0, 0, 0, 0, 0, 0, 0, 0])) (.one 2 (.ints .u8 32))))⟩
def Zeh : Fm ((Unit × Unit)) ((Unit × List Int)) := ⟨(.cons 2 (.lit (.ptr 1 [] 58)) (.one 3 (.lit (.ptr 2 [] 58)))), (.cons 1 (.lit (.ints .u8 32 [0, 0, 0, 0, 0, 0, 0, 0, 0, 0, 0, 0, 0, 0, 0, 0, 0, 0, 0, 0, 0, 0, 0, 0, 0, 0, 0, 0, 0, 0, 0, 0])) (.one 2 (.ints .u8 32)))⟩
def Zei : Fm (Unit) (Unit) := ⟨.nil, .nil⟩
noncomputable def ZeQ (N : Nat) : List (Nat × Lf) := [(0, loopCt Zeg Zeh Zei 4 (ZcR N) N)]
theorem Zj0 (N : Nat) : StepIs Tryz.prog (cxOf Tryz.f112 (ZdE N) ZeP 0) (ZeQ N) Tryz.f112 0 4 Zeg Zeh Zei (ZcR N) := by
  intro v; kernel_rfl
theorem Zn4 (N : Nat) : RunIs Tryz.prog (ZdE N) ZeP 0 (ZeQ N) Tryz.f112 Zh0 Zh1 (fun x => ZcN N x) := by
  intro x; kernel_rfl
theorem Zn5 {w0 : World} (N : Nat)  (hcs : ∀ x ∈ ZdE N, SoundAt Tryz.prog w0 x.1 x.2) : SoundAt Tryz.prog w0 112 (ZdD N) := by
  have L0 : ∀ w, RowKit.Below w0.heap.size w0 w → LoopOK Tryz.prog (cxOf Tryz.f112 (ZdE N) ZeP 0) w 0 (.loop (loopBody Tryz.f112 0)) (loopCt Zeg Zeh Zei 4 (ZcR N) N) :=
    Zbu hcs (ls := ZeQ N) (n := 100) (by kernel_rfl) (Zj0 N) N fun w hw => ZaG (lp_no (by kernel_rfl) ZcL)
  exact Zak hcs (Zaq _ _) Tryz.func112 (by kernel_rfl) (by kernel_rfl) (S := 0) (fun w hw => ZaG (ZfD (L0 w hw) (by kernel_rfl) ZcL)) (fun _ => rfl) (Zn4 N)
theorem Zh2 {w0 : World} (N : Nat)  : SoundAt Tryz.prog w0 112 (ZdD N) :=
  Zn5 N ZaH
abbrev Zky : Ag ((List Int × List Int)) := (.one (.agg (.one (.agg (.cons (.ints .i64 10) (.one (.ints .i64 10)))))))
abbrev Zkz : Pt ((List Int × List Int)) := (.agg (.one (.agg (.cons (.ints .i64 10) (.one (.ints .i64 10))))))
def ZgB : Ct := tct Zky Zkz fun x => Zet x
def ZjA : List (FuncId × Ct) := [(29, Zch), (106, Zgw)]
def Zro : List Gv := []
noncomputable def Zrp : List (Nat × Lf) := []
theorem ZsM : RunIs Tryz.prog (ZjA) Zro 0 (Zrp) Tryz.f63 Zky Zkz (fun x => some (Zet x)) := by
  intro x; kernel_rfl
theorem ZsN {w0 : World}  (hcs : ∀ x ∈ ZjA, SoundAt Tryz.prog w0 x.1 x.2) : SoundAt Tryz.prog w0 63 ZgB := by
  exact Za9 (Zak hcs (Zaq _ _) Tryz.func63 (by kernel_rfl) (by kernel_rfl) (S := 0) (fun w _ => Zal _) (fun _ => rfl) (ZsM)) fun _ _ => rfl
theorem ZsO {w0 : World}  (Zaj : GlobOK Tryz.prog w0 ZaK) (Zag : GlobOK Tryz.prog w0 Zay) : SoundAt Tryz.prog w0 63 ZgB :=
  ZsN (Zah (Zdz Zaj) (Zah (ZsI Zag) ZaH))
abbrev ZiD : Ag ((List Int × List Int)) := (.one (.agg (.one (.agg (.cons (.ints .i64 10) (.one (.ints .i64 10)))))))
abbrev ZiE : Pt ((List Int × List Int)) := (.agg (.one (.agg (.cons (.ints .i64 10) (.one (.ints .i64 10))))))
def Zfm (N : Nat) : Ct := fct ZiD ZiE fun x => ZdF N x
def Zh3 (N : Nat) : List (FuncId × Ct) := [(23, (Zc2 N))]
def Zn6 : List Gv := []
noncomputable def Zn7 (N : Nat) : List (Nat × Lf) := []
theorem ZpF (N : Nat) : RunIs Tryz.prog (Zh3 N) Zn6 0 (Zn7 N) Tryz.f65 ZiD ZiE (fun x => ZdF N x) := by
  intro x; kernel_rfl
theorem ZpG {w0 : World} (N : Nat)  (hcs : ∀ x ∈ Zh3 N, SoundAt Tryz.prog w0 x.1 x.2) : SoundAt Tryz.prog w0 65 (Zfm N) := by
  exact Zak hcs (Zaq _ _) Tryz.func65 (by kernel_rfl) (by kernel_rfl) (S := 0) (fun w _ => Zal _) (fun _ => rfl) (ZpF N)
theorem ZpH {w0 : World} (N : Nat)  (Zaj : GlobOK Tryz.prog w0 ZaK) (Zae : GlobOK Tryz.prog w0 Zar) (Zag : GlobOK Tryz.prog w0 Zay) (ZaA : GlobOK Tryz.prog w0 Zbi) : SoundAt Tryz.prog w0 65 (Zfm N) :=
  ZpG N (Zah (Zfd N Zaj Zae Zag ZaA) ZaH)
abbrev Zjc : Ag (((List Int × List Int) × List Int)) := (.cons (.agg (.one (.agg (.cons (.ints .i64 10) (.one (.ints .i64 10)))))) (.one (.ints .u64 4)))
abbrev Zjd : Pt ((List Int × List Int)) := (.agg (.one (.agg (.cons (.ints .i64 10) (.one (.ints .i64 10))))))
def ZfN (N : Nat) : Ct := fct Zjc Zjd fun x => Zde N x.1 x.2
def ZiF (N : Nat) : List (FuncId × Ct) := [(29, Zch), (111, (Zdl N)), (112, (ZdD N))]
def ZpI : List Gv := []
noncomputable def ZpJ (N : Nat) : List (Nat × Lf) := []
theorem Zqf (N : Nat) : RunIs Tryz.prog (ZiF N) ZpI 0 (ZpJ N) Tryz.f67 Zjc Zjd (fun x => Zde N x.1 x.2) := by
  intro x; kernel_rfl
theorem Zqg {w0 : World} (N : Nat)  (hcs : ∀ x ∈ ZiF N, SoundAt Tryz.prog w0 x.1 x.2) : SoundAt Tryz.prog w0 67 (ZfN N) := by
  exact Zak hcs (Zaq _ _) Tryz.func67 (by kernel_rfl) (by kernel_rfl) (S := 0) (fun w _ => Zal _) (fun _ => rfl) (Zqf N)
theorem Zqh {w0 : World} (N : Nat)  (Zaj : GlobOK Tryz.prog w0 ZaK) (Zae : GlobOK Tryz.prog w0 Zar) (Zag : GlobOK Tryz.prog w0 Zay) (ZaO : GlobOK Tryz.prog w0 Zbh) : SoundAt Tryz.prog w0 67 (ZfN N) :=
  Zqg N (Zah (Zdz Zaj) (Zah (Zf8 N Zae Zag ZaO) (Zah (Zh2 N) ZaH)))
abbrev ZsP : Ag ((List ((List Int × List Int)) × Unit)) := (.one (.tup (.cons (.vec (.agg (.agg (.cons (.ints .i64 10) (.ints .i64 10))))) (.one (.lit (.clo 39 []))))))
abbrev ZsQ : Pt ((List Int × List Int)) := (.agg (.one (.agg (.cons (.ints .i64 10) (.one (.ints .i64 10))))))
def ZkP (N : Nat) : Ct := fct ZsP ZsQ fun x => ZiH N x
def Zh9 (N : Nat) : List (FuncId × Ct) := [(23, (Zc2 N)), (117, Zeb)]
def ZkQ : List Gv := []
def Zje : Fm ((Nat × Unit × Unit × Int)) ((List ((List Int × List Int)) × Unit × (List Int × List Int))) := ⟨(.cons 0 (.slw 0 39) (.cons 2 (.lit (.ptr 1 [] 39)) (.cons 3 (.lit (.ptr 3 [] 39)) (.one 4 (.int .i64))))), (.cons 0 (.vec (.agg (.agg (.cons (.ints .i64 10) (.ints .i64 10))))) (.cons 1 (.lit (.agg [(.agg [(.ints .i64 10 [0, 0, 0, 0, 0, 0, 0, 0, 0, 0]), (.ints .i64 10 [0, 0, 0, 0, 0, 0, 0, 0, 0, 0])])])) (.one 3 (.agg (.one (.agg (.cons (.ints .i64 10) (.one (.ints .i64 10)))))))))⟩
def Zjf : Fm ((Unit × Unit)) ((Unit × (List Int × List Int))) := ⟨(.cons 2 (.lit (.ptr 1 [] 39)) (.one 3 (.lit (.ptr 3 [] 39)))), (.cons 1 (.lit (.agg [(.agg [(.ints .i64 10 [0, 0, 0, 0, 0, 0, 0, 0, 0, 0]), (.ints .i64 10 [0, 0, 0, 0, 0, 0, 0, 0, 0, 0])])])) (.one 3 (.agg (.one (.agg (.cons (.ints .i64 10) (.one (.ints .i64 10))))))))⟩
def Zjg : Fm (Unit) (Unit) := ⟨.nil, .nil⟩
noncomputable def ZkR (N : Nat) : List (Nat × Lf) := [(0, loopCt Zje Zjf Zjg 6 (ZbX N) N)]
theorem ZsR (N : Nat) : StepIs Tryz.prog (cxOf Tryz.f74 (Zh9 N) ZkQ 1) (ZkR N) Tryz.f74 0 6 Zje Zjf Zjg (ZbX N) := by
  intro v; kernel_rfl
theorem ZCl (N : Nat) : RunIs Tryz.prog (Zh9 N) ZkQ 1 (ZkR N) Tryz.f74 ZsP ZsQ (fun x => ZiH N x) := by
  intro x; kernel_rfl
theorem ZCm {w0 : World} (N : Nat)  (hcs : ∀ x ∈ Zh9 N, SoundAt Tryz.prog w0 x.1 x.2) : SoundAt Tryz.prog w0 74 (ZkP N) := by
  have L0 : ∀ w, RowKit.Below w0.heap.size w0 w → LoopOK Tryz.prog (cxOf Tryz.f74 (Zh9 N) ZkQ 1) w 0 (.loop (loopBody Tryz.f74 0)) (loopCt Zje Zjf Zjg 6 (ZbX N) N) :=
    Zbu hcs (ls := ZkR N) (n := 100) (by kernel_rfl) (ZsR N) N fun w hw => ZaG (lp_no (by kernel_rfl) ZcL)
  exact Zak hcs (Zaq _ _) Tryz.func74 (by kernel_rfl) (by kernel_rfl) (S := 1) (fun w hw => ZaG (ZfD (L0 w hw) (by kernel_rfl) ZcL)) (fun _ => rfl) (ZCl N)
theorem ZCn {w0 : World} (N : Nat)  (Zaj : GlobOK Tryz.prog w0 ZaK) (Zae : GlobOK Tryz.prog w0 Zar) (Zag : GlobOK Tryz.prog w0 Zay) (ZaA : GlobOK Tryz.prog w0 Zbi) : SoundAt Tryz.prog w0 74 (ZkP N) :=
  ZCm N (Zah (Zfd N Zaj Zae Zag ZaA) (Zah (Zik Zaj) ZaH))
abbrev ZkA : Ag ((List Int × List Int)) := (.one (.agg (.cons (.ints .i64 10) (.one (.ints .i64 10)))))
abbrev ZkB : Pt (((List Int × List Int) × Int)) := (.tup (.cons (.agg (.one (.agg (.cons (.ints .i64 10) (.one (.ints .i64 10)))))) (.one (.int .i64))))
def ZeJ (N : Nat) : Ct := fct ZkA ZkB fun x => Zb4 N x
def ZjB (N : Nat) : List (FuncId × Ct) := [(88, (Zc1 N)), (117, Zeb), (118, (Zf9 N))]
def Zrq : List Gv := []
noncomputable def Zrr (N : Nat) : List (Nat × Lf) := []
theorem ZsS (N : Nat) : RunIs Tryz.prog (ZjB N) Zrq 0 (Zrr N) Tryz.f72 ZkA ZkB (fun x => Zb4 N x) := by
  intro x; kernel_rfl
theorem ZsT {w0 : World} (N : Nat)  (hcs : ∀ x ∈ ZjB N, SoundAt Tryz.prog w0 x.1 x.2) : SoundAt Tryz.prog w0 72 (ZeJ N) := by
  exact Zak hcs (Zaq _ _) Tryz.func72 (by kernel_rfl) (by kernel_rfl) (S := 0) (fun w _ => Zal _) (fun _ => rfl) (ZsS N)
theorem ZkC {w0 : World} (N : Nat)  (Zae : GlobOK Tryz.prog w0 Zar) (Zag : GlobOK Tryz.prog w0 Zay) (ZaA : GlobOK Tryz.prog w0 Zbi) (Zaj : GlobOK Tryz.prog w0 ZaK) (ZaO : GlobOK Tryz.prog w0 Zbh) : SoundAt Tryz.prog w0 72 (ZeJ N) :=
  ZsT N (Zah (Zfb N Zae Zag ZaA) (Zah (Zik Zaj) (Zah (Zrm N Zaj Zae Zag ZaO) ZaH)))
abbrev ZCo : Ag ((List ((List Int × List Int × List Int × List Int)) × Unit)) := (.one (.tup (.cons (.vec (.agg (.agg (.agg (.cons (.ints .u64 5) (.cons (.ints .u64 5) (.cons (.ints .u64 5) (.ints .u64 5)))))))) (.one (.lit (.clo 32 []))))))
abbrev ZCp : Pt ((List Int × List Int × List Int × List Int)) := (.agg (.one (.agg (.one (.agg (.cons (.ints .u64 5) (.cons (.ints .u64 5) (.cons (.ints .u64 5) (.one (.ints .u64 5))))))))))
def ZsU (N : Nat) : Ct := fct ZCo ZCp fun x => Zru N x
def ZnM (N : Nat) : List (FuncId × Ct) := [(20, Ze7)]
def ZsV : List Gv := []
def Zn8 : Fm ((Unit × Unit × Nat × Int × Int)) ((List ((List Int × List Int × List Int × List Int)) × Unit × (List Int × List Int × List Int × List Int))) := ⟨(.cons 2 (.lit (.ptr 1 [] 32)) (.cons 3 (.lit (.ptr 2 [] 32)) (.cons 6 (.slw 0 32) (.cons 7 (.int .i64) (.one 8 (.int .i64)))))), (.cons 0 (.vec (.agg (.agg (.agg (.cons (.ints .u64 5) (.cons (.ints .u64 5) (.cons (.ints .u64 5) (.ints .u64 5)))))))) (.cons 1 (.lit (.agg [(.agg [(.agg [(.ints .u64 5 [0, 0, 0, 0, 0]), (.ints .u64 5 [0, 0, 0, 0, 0]), (.ints .u64 5 [0, 0, 0, 0, 0]), (.ints .u64 5 [0, 0, 0, 0, 0])])])])) (.one 2 (.agg (.one (.agg (.one (.agg (.cons (.ints .u64 5) (.cons (.ints .u64 5) (.cons (.ints .u64 5) (.one (.ints .u64 5)))))))))))))⟩
def Zn9 : Fm ((Unit × Unit)) ((Unit × (List Int × List Int × List Int × List Int))) := ⟨(.cons 2 (.lit (.ptr 1 [] 32)) (.one 3 (.lit (.ptr 2 [] 32)))), (.cons 1 (.lit (.agg [(.agg [(.agg [(.ints .u64 5 [0, 0, 0, 0, 0]), (.ints .u64 5 [0, 0, 0, 0, 0]), (.ints .u64 5 [0, 0, 0, 0, 0]), (.ints .u64 5 [0, 0, 0, 0, 0])])])])) (.one 2 (.agg (.one (.agg (.one (.agg (.cons (.ints .u64 5) (.cons (.ints .u64 5) (.cons (.ints .u64 5) (.one (.ints .u64 5))))))))))))⟩
def Zoa : Fm (Unit) (Unit) := ⟨.nil, .nil⟩
noncomputable def ZsW (N : Nat) : List (Nat × Lf) := [(0, loopCt Zn8 Zn9 Zoa 6 (Zdf N) N)]
theorem Zzx (N : Nat) : StepIs Tryz.prog (cxOf Tryz.f73 (ZnM N) ZsV 1) (ZsW N) Tryz.f73 0 6 Zn8 Zn9 Zoa (Zdf N) := by
  intro v; kernel_rfl
theorem ZGL (N : Nat) : RunIs Tryz.prog (ZnM N) ZsV 1 (ZsW N) Tryz.f73 ZCo ZCp (fun x => Zru N x) := by
  intro x; kernel_rfl
theorem ZGM {w0 : World} (N : Nat)  (hcs : ∀ x ∈ ZnM N, SoundAt Tryz.prog w0 x.1 x.2) : SoundAt Tryz.prog w0 73 (ZsU N) := by
  have L0 : ∀ w, RowKit.Below w0.heap.size w0 w → LoopOK Tryz.prog (cxOf Tryz.f73 (ZnM N) ZsV 1) w 0 (.loop (loopBody Tryz.f73 0)) (loopCt Zn8 Zn9 Zoa 6 (Zdf N) N) :=
    Zbu hcs (ls := ZsW N) (n := 100) (by kernel_rfl) (Zzx N) N fun w hw => ZaG (lp_no (by kernel_rfl) ZcL)
  exact Zak hcs (Zaq _ _) Tryz.func73 (by kernel_rfl) (by kernel_rfl) (S := 1) (fun w hw => ZaG (ZfD (L0 w hw) (by kernel_rfl) ZcL)) (fun _ => rfl) (ZGL N)
theorem ZGN {w0 : World} (N : Nat)  (Zai : GlobOK Tryz.prog w0 ZaD) (Zav : GlobOK Tryz.prog w0 Za7) : SoundAt Tryz.prog w0 73 (ZsU N) :=
  ZGM N (Zah (ZjM Zai Zav) ZaH)
abbrev ZnN : Ag (((List (((List Int × List Int × List Int × List Int) × (List Int × List Int))) × Unit) × Int)) := (.cons (.tup (.cons (.vec (.agg (.cons (.agg (.agg (.agg (.cons (.ints .u64 5) (.cons (.ints .u64 5) (.cons (.ints .u64 5) (.ints .u64 5))))))) (.agg (.agg (.cons (.ints .i64 10) (.ints .i64 10))))))) (.one (.lit (.clo 60 []))))) (.one (.int .i64)))
abbrev ZnO : Pt (((List Int × List Int × List Int × List Int) × (List Int × List Int))) := (.agg (.cons (.agg (.one (.agg (.one (.agg (.cons (.ints .u64 5) (.cons (.ints .u64 5) (.cons (.ints .u64 5) (.one (.ints .u64 5)))))))))) (.one (.agg (.one (.agg (.cons (.ints .i64 10) (.one (.ints .i64 10)))))))))
def Zis : Ct := fct ZnN ZnO fun x => ZeS x.1 x.2
def ZmF : List (FuncId × Ct) := []
def ZvE : List Gv := []
noncomputable def ZvF : List (Nat × Lf) := []
theorem ZxI : RunIs Tryz.prog (ZmF) ZvE 1 (ZvF) Tryz.f61 ZnN ZnO (fun x => ZeS x.1 x.2) := by
  intro x; kernel_rfl
theorem ZxJ {w0 : World}  (hcs : ∀ x ∈ ZmF, SoundAt Tryz.prog w0 x.1 x.2) : SoundAt Tryz.prog w0 61 Zis := by
  exact Zak hcs (Zaq _ _) Tryz.func61 (by kernel_rfl) (by kernel_rfl) (S := 1) (fun w _ => Zal _) (fun _ => rfl) (ZxI)
theorem ZxK {w0 : World}  : SoundAt Tryz.prog w0 61 Zis :=
  ZxJ ZaH
abbrev ZnP : Ag (((List (((List Int × List Int × List Int × List Int) × (List Int × List Int))) × Unit) × (Int × Int × Int × List Int × List Int × List Int))) := (.cons (.tup (.cons (.vec (.agg (.cons (.agg (.agg (.agg (.cons (.ints .u64 5) (.cons (.ints .u64 5) (.cons (.ints .u64 5) (.ints .u64 5))))))) (.agg (.agg (.cons (.ints .i64 10) (.ints .i64 10))))))) (.one (.lit (.clo 60 []))))) (.one (.agg (.cons (.int .i64) (.cons (.int .i64) (.cons (.int .i64) (.cons (.ints .u64 4) (.cons (.ints .u64 5) (.one (.ints .u8 64))))))))))
abbrev ZnQ : Pt ((((List Int × List Int × List Int × List Int) × (List Int × List Int)) × Bool)) := (.tup (.cons (.agg (.cons (.agg (.one (.agg (.one (.agg (.cons (.ints .u64 5) (.cons (.ints .u64 5) (.cons (.ints .u64 5) (.one (.ints .u64 5)))))))))) (.one (.agg (.one (.agg (.cons (.ints .i64 10) (.one (.ints .i64 10))))))))) (.one .bool)))
def Zit (N : Nat) : Ct := fct ZnP ZnQ fun x => ZeR N x.1 x.2
def ZmG (N : Nat) : List (FuncId × Ct) := [(9, (ZgI N)), (10, Zdu), (11, Zh6), (12, (Zhq N)), (68, (ZgL N)), (72, (ZeJ N)), (88, (Zc1 N)), (101, Zlz), (102, (Zhp N)), (110, (Zft N)), (111, (Zdl N)), (112, (ZdD N)), (119, (ZhM N))]
def ZvG : List Gv := []
noncomputable def ZvH (N : Nat) : List (Nat × Lf) := []
theorem ZxL (N : Nat) : RunIs Tryz.prog (ZmG N) ZvG 1 (ZvH N) Tryz.f75 ZnP ZnQ (fun x => ZeR N x.1 x.2) := by
  intro x; kernel_rfl
theorem ZxM {w0 : World} (N : Nat)  (hcs : ∀ x ∈ ZmG N, SoundAt Tryz.prog w0 x.1 x.2) : SoundAt Tryz.prog w0 75 (Zit N) := by
  exact Zak hcs (Zaq _ _) Tryz.func75 (by kernel_rfl) (by kernel_rfl) (S := 1) (fun w _ => Zal _) (fun _ => rfl) (ZxL N)
theorem ZxN {w0 : World} (N : Nat)  (Zai : GlobOK Tryz.prog w0 ZaD) (Zav : GlobOK Tryz.prog w0 Za7) (Zb6 : GlobOK Tryz.prog w0 Zdb) (ZcK : GlobOK Tryz.prog w0 Zd4) (Zae : GlobOK Tryz.prog w0 Zar) (Zag : GlobOK Tryz.prog w0 Zay) (ZaA : GlobOK Tryz.prog w0 Zbi) (Zaj : GlobOK Tryz.prog w0 ZaK) (ZaO : GlobOK Tryz.prog w0 Zbh) (Zc7 : GlobOK Tryz.prog w0 Ze5) (Zaz : GlobOK Tryz.prog w0 Zbg) (Zat : GlobOK Tryz.prog w0 ZaY) (ZbQ : GlobOK Tryz.prog w0 Zc8) (Za5 : GlobOK Tryz.prog w0 Zcn) (ZaJ : GlobOK Tryz.prog w0 Zbs) (ZcX : GlobOK Tryz.prog w0 ZbW) : SoundAt Tryz.prog w0 75 (Zit N) :=
  ZxM N (Zah (Zpo N Zai Zav Zb6) (Zah (ZfG Zai Zav) (Zah (Zr4 ZcK) (Zah (ZqL N Zai) (Zah (ZpE N) (Zah (ZkC N Zae Zag ZaA Zaj ZaO) (Zah (Zfb N Zae Zag ZaA) (Zah (ZzY Zc7) (Zah (ZqF N Zae Zag Zaz Zat ZbQ) (Zah (Zmw N Zai Zav Za5 ZaJ) (Zah (Zf8 N Zae Zag ZaO) (Zah (Zh2 N) (Zah (ZvD N Zae Zag ZaA Zaj ZcX) ZaH)))))))))))))
abbrev ZqR : Ag (((List (((List Int × List Int × List Int × List Int) × (List Int × List Int))) × Unit) × (Int × Int × Int × List Int × List Int × List Int))) := (.cons (.tup (.cons (.vec (.agg (.cons (.agg (.agg (.agg (.cons (.ints .u64 5) (.cons (.ints .u64 5) (.cons (.ints .u64 5) (.ints .u64 5))))))) (.agg (.agg (.cons (.ints .i64 10) (.ints .i64 10))))))) (.one (.lit (.clo 60 []))))) (.one (.agg (.cons (.int .i64) (.cons (.int .i64) (.cons (.int .i64) (.cons (.ints .u64 4) (.cons (.ints .u64 5) (.one (.ints .u8 64))))))))))
abbrev ZqS : Pt ((((List Int × List Int × List Int × List Int) × (List Int × List Int)) × Bool)) := (.tup (.cons (.agg (.cons (.agg (.one (.agg (.one (.agg (.cons (.ints .u64 5) (.cons (.ints .u64 5) (.cons (.ints .u64 5) (.one (.ints .u64 5)))))))))) (.one (.agg (.one (.agg (.cons (.ints .i64 10) (.one (.ints .i64 10))))))))) (.one .bool)))
def Zj1 (N : Nat) : Ct := fct ZqR ZqS fun x => ZhW N x.1 x.2
def ZpK (N : Nat) : List (FuncId × Ct) := [(5, (Zsa N)), (6, (ZkK N)), (7, (ZhF N)), (8, (ZfL N)), (9, (ZgI N)), (12, (Zhq N)), (15, (ZdP N)), (16, (Ze6 N)), (18, (Zh7 N)), (20, Ze7), (21, (Zfr N)), (23, (Zc2 N)), (61, Zis), (62, ZiP), (63, ZgB), (64, ZgY), (65, (Zfm N)), (66, (ZhL N)), (67, (ZfN N)), (68, (ZgL N)), (69, (Zma N)), (70, (ZgZ N)), (71, (Zil N)), (72, (ZeJ N)), (73, (ZsU N)), (74, (ZkP N)), (75, (Zit N))]
def Zzy : List Gv := []
noncomputable def Zzz (N : Nat) : List (Nat × Lf) := []
theorem ZAK (N : Nat) : RunIs Tryz.prog (ZpK N) Zzy 1 (Zzz N) Tryz.f17 ZqR ZqS (fun x => ZhW N x.1 x.2) := by
  intro x; kernel_rfl
theorem ZAL {w0 : World} (N : Nat)  (hcs : ∀ x ∈ ZpK N, SoundAt Tryz.prog w0 x.1 x.2) : SoundAt Tryz.prog w0 17 (Zj1 N) := by
  exact Zak hcs (Zaq _ _) Tryz.func17 (by kernel_rfl) (by kernel_rfl) (S := 1) (fun w _ => Zal _) (fun _ => rfl) (ZAK N)
theorem ZAM {w0 : World} (N : Nat)  (Za6 : GlobOK Tryz.prog w0 Zcv) (Zbl : GlobOK Tryz.prog w0 Zdn) (Zda : GlobOK Tryz.prog w0 ZfS) (ZbA : GlobOK Tryz.prog w0 ZcH) (Zai : GlobOK Tryz.prog w0 ZaD) (Zav : GlobOK Tryz.prog w0 Za7) (Zae : GlobOK Tryz.prog w0 Zar) (Zag : GlobOK Tryz.prog w0 Zay) (Zaz : GlobOK Tryz.prog w0 Zbg) (Zat : GlobOK Tryz.prog w0 ZaY) (Zcf : GlobOK Tryz.prog w0 Zdx) (Zct : GlobOK Tryz.prog w0 ZdA) (Zaj : GlobOK Tryz.prog w0 ZaK) (ZaA : GlobOK Tryz.prog w0 Zbi) (ZcK : GlobOK Tryz.prog w0 Zd4) (Zb6 : GlobOK Tryz.prog w0 Zdb) (ZbT : GlobOK Tryz.prog w0 Zdc) (Zcs : GlobOK Tryz.prog w0 Zb7) (Za5 : GlobOK Tryz.prog w0 Zcn) (ZaJ : GlobOK Tryz.prog w0 Zbs) (Zca : GlobOK Tryz.prog w0 ZcW) (ZaO : GlobOK Tryz.prog w0 Zbh) (Zc7 : GlobOK Tryz.prog w0 Ze5) (ZbQ : GlobOK Tryz.prog w0 Zc8) (ZcX : GlobOK Tryz.prog w0 ZbW) : SoundAt Tryz.prog w0 17 (Zj1 N) :=
  ZAL N (Zah (ZGH N Za6 Zbl Zda ZbA Zai Zav) (Zah (ZCa N Zae Zag Zaz Zat Zcf Zct Zaj ZaA) (Zah (Zvm N Zai Zav ZcK) (Zah (Zp8 N Zae Zag Zaj) (Zah (Zpo N Zai Zav Zb6) (Zah (ZqL N Zai) (Zah (ZiB N Zae Zag Zaj Zaz Zat ZbT Zcs) (Zah (Zk8 N Zai Za6 Zbl) (Zah (Zr9 N Za6 Zbl Zda ZbA) (Zah (ZjM Zai Zav) (Zah (Zml N Zae Zag Zaz Zat Zcf Zct) (Zah (Zfd N Zaj Zae Zag ZaA) (Zah (ZxK) (Zah (ZyJ Zai) (Zah (ZsO Zaj Zag) (Zah (ZtB Zai) (Zah (ZpH N Zaj Zae Zag ZaA) (Zah (ZvA N Zai Za5 ZaJ Zca Zav) (Zah (Zqh N Zaj Zae Zag ZaO) (Zah (ZpE N) (Zah (ZCG N Zae) (Zah (ZtE N Za6 Zbl Zda ZbA) (Zah (Zxr N Zae Zag Zaz Zat Zaj ZbT) (Zah (ZkC N Zae Zag ZaA Zaj ZaO) (Zah (ZGN N Zai Zav) (Zah (ZCn N Zaj Zae Zag ZaA) (Zah (ZxN N Zai Zav Zb6 ZcK Zae Zag ZaA Zaj ZaO Zc7 Zaz Zat ZbQ Za5 ZaJ ZcX) ZaH)))))))))))))))))))))))))))
abbrev ZnR : Ag (Unit) := .nil
abbrev ZnS : Pt ((List (((List Int × List Int × List Int × List Int) × (List Int × List Int))) × Unit)) := (.tup (.cons (.vec (.agg (.cons (.agg (.agg (.agg (.cons (.ints .u64 5) (.cons (.ints .u64 5) (.cons (.ints .u64 5) (.ints .u64 5))))))) (.agg (.agg (.cons (.ints .i64 10) (.ints .i64 10))))))) (.one (.lit (.clo 60 [])))))
def Ziu (N : Nat) : Ct := fct ZnR ZnS fun x => Zgj N
def ZmH (N : Nat) : List (FuncId × Ct) := [(43, ZpY), (44, (ZjV N))]
def ZvI : List Gv := []
noncomputable def ZvJ (N : Nat) : List (Nat × Lf) := []
theorem ZxO (N : Nat) : RunIs Tryz.prog (ZmH N) ZvI 0 (ZvJ N) Tryz.f14 ZnR ZnS (fun x => Zgj N) := by
  intro x; kernel_rfl
theorem ZxP {w0 : World} (N : Nat)  (hcs : ∀ x ∈ ZmH N, SoundAt Tryz.prog w0 x.1 x.2) : SoundAt Tryz.prog w0 14 (Ziu N) := by
  exact Zak hcs (Zaq _ _) Tryz.func14 (by kernel_rfl) (by kernel_rfl) (S := 0) (fun w _ => Zal _) (fun _ => rfl) (ZxO N)
theorem ZxQ {w0 : World} (N : Nat)  (Zc7 : GlobOK Tryz.prog w0 Ze5) (Zae : GlobOK Tryz.prog w0 Zar) (Zag : GlobOK Tryz.prog w0 Zay) (Zaz : GlobOK Tryz.prog w0 Zbg) (Zat : GlobOK Tryz.prog w0 ZaY) (ZbQ : GlobOK Tryz.prog w0 Zc8) : SoundAt Tryz.prog w0 14 (Ziu N) :=
  ZxP N (Zah (ZFO Zc7) (Zah (ZAx N Zae Zag Zaz Zat ZbQ) ZaH))
abbrev Zlr : Ag ((List ((Int × Int × Int × List Int × List Int × List Int)) × Unit)) := (.one (.tup (.cons (.vec (.agg (.cons (.int .i64) (.cons (.int .i64) (.cons (.int .i64) (.cons (.ints .u64 4) (.cons (.ints .u64 5) (.ints .u8 64)))))))) (.one (.lit (.clo 66 []))))))
abbrev Zls : Pt (Bool) := .bool
def ZkD (N : Nat) : Ct := fct Zlr Zls fun x => ZeW N x
def Zci (N : Nat) : List (FuncId × Ct) := [(13, Zie), (14, (Ziu N)), (15, (ZdP N)), (16, (Ze6 N)), (17, (Zj1 N))]
def ZcI : List Gv := []
def Zga : Fm ((Nat × Unit × Nat × Nat × Int)) ((List ((Int × Int × Int × List Int × List Int × List Int)) × List (List Int) × List (((List Int × List Int × List Int × List Int) × (List Int × List Int))))) := ⟨(.cons 0 (.slw 0 66) (.cons 2 (.lit (.bool false)) (.cons 3 (.gsw 2 60) (.cons 4 (.gsw 1 58) (.one 5 (.int .i64)))))), (.cons 0 (.vec (.agg (.cons (.int .i64) (.cons (.int .i64) (.cons (.int .i64) (.cons (.ints .u64 4) (.cons (.ints .u64 5) (.ints .u8 64)))))))) (.cons 1 (.vec (.ints .u8 32)) (.one 2 (.vec (.agg (.cons (.agg (.agg (.agg (.cons (.ints .u64 5) (.cons (.ints .u64 5) (.cons (.ints .u64 5) (.ints .u64 5))))))) (.agg (.agg (.cons (.ints .i64 10) (.ints .i64 10))))))))))⟩
def Zgb : Fm ((Nat × Nat × Nat)) ((List ((Int × Int × Int × List Int × List Int × List Int)) × List (List Int) × List (((List Int × List Int × List Int × List Int) × (List Int × List Int))))) := ⟨(.cons 0 (.slw 0 66) (.cons 3 (.gsw 2 60) (.one 4 (.gsw 1 58)))), (.cons 0 (.vec (.agg (.cons (.int .i64) (.cons (.int .i64) (.cons (.int .i64) (.cons (.ints .u64 4) (.cons (.ints .u64 5) (.ints .u8 64)))))))) (.cons 1 (.vec (.ints .u8 32)) (.one 2 (.vec (.agg (.cons (.agg (.agg (.agg (.cons (.ints .u64 5) (.cons (.ints .u64 5) (.cons (.ints .u64 5) (.ints .u64 5))))))) (.agg (.agg (.cons (.ints .i64 10) (.ints .i64 10))))))))))⟩
def Zgc : Fm (Unit) (Unit) := ⟨(.one 2 (.lit (.bool false))), .nil⟩
def Zgd : Fm ((Nat × Nat × Nat × Int × Unit × Int × Int × Int × Bool)) ((List ((Int × Int × Int × List Int × List Int × List Int)) × ((List Int × List Int × List Int × List Int) × (List Int × List Int)) × List (((List Int × List Int × List Int × List Int) × (List Int × List Int))) × List (List Int))) := ⟨(.cons 0 (.slw 0 66) (.cons 3 (.gsw 32 60) (.cons 4 (.gsw 39 58) (.cons 6 (.int .i64) (.cons 7 (.lit (.ptr 24 [] 60)) (.cons 9 (.int .i64) (.cons 10 (.int .i64) (.cons 43 (.int .i64) (.one 44 .bool))))))))), (.cons 0 (.vec (.agg (.cons (.int .i64) (.cons (.int .i64) (.cons (.int .i64) (.cons (.ints .u64 4) (.cons (.ints .u64 5) (.ints .u8 64)))))))) (.cons 24 (.agg (.cons (.agg (.one (.agg (.one (.agg (.cons (.ints .u64 5) (.cons (.ints .u64 5) (.cons (.ints .u64 5) (.one (.ints .u64 5)))))))))) (.one (.agg (.one (.agg (.cons (.ints .i64 10) (.one (.ints .i64 10))))))))) (.cons 32 (.vec (.agg (.cons (.agg (.agg (.agg (.cons (.ints .u64 5) (.cons (.ints .u64 5) (.cons (.ints .u64 5) (.ints .u64 5))))))) (.agg (.agg (.cons (.ints .i64 10) (.ints .i64 10))))))) (.one 39 (.vec (.ints .u8 32))))))⟩
def Zge : Fm ((Nat × Nat × Nat × Int × Int × Bool)) ((List ((Int × Int × Int × List Int × List Int × List Int)) × List (((List Int × List Int × List Int × List Int) × (List Int × List Int))) × List (List Int))) := ⟨(.cons 0 (.slw 0 66) (.cons 3 (.gsw 32 60) (.cons 4 (.gsw 39 58) (.cons 6 (.int .i64) (.cons 43 (.int .i64) (.one 44 .bool)))))), (.cons 0 (.vec (.agg (.cons (.int .i64) (.cons (.int .i64) (.cons (.int .i64) (.cons (.ints .u64 4) (.cons (.ints .u64 5) (.ints .u8 64)))))))) (.cons 32 (.vec (.agg (.cons (.agg (.agg (.agg (.cons (.ints .u64 5) (.cons (.ints .u64 5) (.cons (.ints .u64 5) (.ints .u64 5))))))) (.agg (.agg (.cons (.ints .i64 10) (.ints .i64 10))))))) (.one 39 (.vec (.ints .u8 32)))))⟩
def Zgf : Fm (Unit) (Unit) := ⟨(.one 2 (.lit (.bool false))), .nil⟩
def Zgg : Fm ((Nat × Nat × Nat × Int)) ((List ((Int × Int × Int × List Int × List Int × List Int)) × List (List Int) × List (((List Int × List Int × List Int × List Int) × (List Int × List Int))))) := ⟨(.cons 0 (.slw 0 66) (.cons 3 (.gsw 2 60) (.cons 4 (.gsw 1 58) (.one 6 (.int .i64))))), (.cons 0 (.vec (.agg (.cons (.int .i64) (.cons (.int .i64) (.cons (.int .i64) (.cons (.ints .u64 4) (.cons (.ints .u64 5) (.ints .u8 64)))))))) (.cons 1 (.vec (.ints .u8 32)) (.one 2 (.vec (.agg (.cons (.agg (.agg (.agg (.cons (.ints .u64 5) (.cons (.ints .u64 5) (.cons (.ints .u64 5) (.ints .u64 5))))))) (.agg (.agg (.cons (.ints .i64 10) (.ints .i64 10))))))))))⟩
def Zgh : Fm (Unit) (Unit) := ⟨.nil, .nil⟩
def Zgi : Fm (Unit) (Unit) := ⟨(.one 2 (.lit (.bool false))), .nil⟩
noncomputable def ZcJ (N : Nat) : List (Nat × Lf) := [(0, loopCt Zga Zgb Zgc 6 (ZbJ N) N), (4, loopCt Zgd Zge Zgf 54 (ZbI N) N), (2, loopCt Zgg Zgh Zgi 7 (Zbo N) N)]
theorem ZmO (N : Nat) : StepIs Tryz.prog (cxOf Tryz.f4 (Zci N) ZcI 1) (ZcJ N) Tryz.f4 0 6 Zga Zgb Zgc (ZbJ N) := by
  intro v; kernel_rfl
theorem ZmP (N : Nat) : StepIs Tryz.prog (cxOf Tryz.f4 (Zci N) ZcI 1) (ZcJ N) Tryz.f4 4 54 Zgd Zge Zgf (ZbI N) := by
  intro v; kernel_rfl
theorem ZmQ (N : Nat) : StepIs Tryz.prog (cxOf Tryz.f4 (Zci N) ZcI 1) (ZcJ N) Tryz.f4 2 7 Zgg Zgh Zgi (Zbo N) := by
  intro v; kernel_rfl
theorem ZtZ (N : Nat) : RunIs Tryz.prog (Zci N) ZcI 1 (ZcJ N) Tryz.f4 Zlr Zls (fun x => ZeW N x) := by
  intro x; kernel_rfl
theorem Zt0 {w0 : World} (N : Nat)  (hcs : ∀ x ∈ Zci N, SoundAt Tryz.prog w0 x.1 x.2) : SoundAt Tryz.prog w0 4 (ZkD N) := by
  have L0 : ∀ w, RowKit.Below w0.heap.size w0 w → LoopOK Tryz.prog (cxOf Tryz.f4 (Zci N) ZcI 1) w 0 (.loop (loopBody Tryz.f4 0)) (loopCt Zga Zgb Zgc 6 (ZbJ N) N) :=
    Zbu hcs (ls := ZcJ N) (n := 100) (by kernel_rfl) (ZmO N) N fun w hw => ZaG (lp_no (by kernel_rfl) (lp_no (by kernel_rfl) (lp_no (by kernel_rfl) ZcL)))
  have L4 : ∀ w, RowKit.Below w0.heap.size w0 w → LoopOK Tryz.prog (cxOf Tryz.f4 (Zci N) ZcI 1) w 4 (.loop (loopBody Tryz.f4 4)) (loopCt Zgd Zge Zgf 54 (ZbI N) N) :=
    Zbu hcs (ls := ZcJ N) (n := 100) (by kernel_rfl) (ZmP N) N fun w hw => ZaG (lp_no (by kernel_rfl) (lp_no (by kernel_rfl) (lp_no (by kernel_rfl) ZcL)))
  have L2 : ∀ w, RowKit.Below w0.heap.size w0 w → LoopOK Tryz.prog (cxOf Tryz.f4 (Zci N) ZcI 1) w 2 (.loop (loopBody Tryz.f4 2)) (loopCt Zgg Zgh Zgi 7 (Zbo N) N) :=
    Zbu hcs (ls := ZcJ N) (n := 100) (by kernel_rfl) (ZmQ N) N fun w hw => ZaG (lp_no (by kernel_rfl) (ZfD (L4 w hw) (by kernel_rfl) (lp_no (by kernel_rfl) ZcL)))
  exact Zak hcs (Zaq _ _) Tryz.func4 (by kernel_rfl) (by kernel_rfl) (S := 1) (fun w hw => ZaG (ZfD (L0 w hw) (by kernel_rfl) (ZfD (L4 w hw) (by kernel_rfl) (ZfD (L2 w hw) (by kernel_rfl) ZcL)))) (fun _ => rfl) (ZtZ N)
theorem Zs8 {w0 : World} (N : Nat)  (Zai : GlobOK Tryz.prog w0 ZaD) (Zav : GlobOK Tryz.prog w0 Za7) (Zc7 : GlobOK Tryz.prog w0 Ze5) (Zae : GlobOK Tryz.prog w0 Zar) (Zag : GlobOK Tryz.prog w0 Zay) (Zaz : GlobOK Tryz.prog w0 Zbg) (Zat : GlobOK Tryz.prog w0 ZaY) (ZbQ : GlobOK Tryz.prog w0 Zc8) (Zaj : GlobOK Tryz.prog w0 ZaK) (ZbT : GlobOK Tryz.prog w0 Zdc) (Zcs : GlobOK Tryz.prog w0 Zb7) (Za6 : GlobOK Tryz.prog w0 Zcv) (Zbl : GlobOK Tryz.prog w0 Zdn) (Zda : GlobOK Tryz.prog w0 ZfS) (ZbA : GlobOK Tryz.prog w0 ZcH) (Zcf : GlobOK Tryz.prog w0 Zdx) (Zct : GlobOK Tryz.prog w0 ZdA) (ZaA : GlobOK Tryz.prog w0 Zbi) (ZcK : GlobOK Tryz.prog w0 Zd4) (Zb6 : GlobOK Tryz.prog w0 Zdb) (Za5 : GlobOK Tryz.prog w0 Zcn) (ZaJ : GlobOK Tryz.prog w0 Zbs) (Zca : GlobOK Tryz.prog w0 ZcW) (ZaO : GlobOK Tryz.prog w0 Zbh) (ZcX : GlobOK Tryz.prog w0 ZbW) : SoundAt Tryz.prog w0 4 (ZkD N) :=
  Zt0 N (Zah (ZwS Zai Zav) (Zah (ZxQ N Zc7 Zae Zag Zaz Zat ZbQ) (Zah (ZiB N Zae Zag Zaj Zaz Zat ZbT Zcs) (Zah (Zk8 N Zai Za6 Zbl) (Zah (ZAM N Za6 Zbl Zda ZbA Zai Zav Zae Zag Zaz Zat Zcf Zct Zaj ZaA ZcK Zb6 ZbT Zcs Za5 ZaJ Zca ZaO Zc7 ZbQ ZcX) ZaH)))))
end Go.Vx
