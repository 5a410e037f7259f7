import Derived.Test.YtoionfdfofmplaaGreatDoorFp
import Derived.Test.YtoionfdfofmplaaGreatDoorProg
import Derived.Test.YtoionfdfofmplaaGreatDoorVxR2
import Derived.Test.YtoionfdfofmplaaGreatDoorVxZ2
set_option autoImplicit false
set_option linter.unusedVariables false
set_option linter.unusedSimpArgs false
namespace Go.Vx
open Go Go.Proofs Go.Proofs.Tryz
noncomputable section
abbrev GO(w0:World)(l:List Gv):Prop:=GlobOK prog w0 l
abbrev SA(w0:World)(g:FuncId)(c:Ct):Prop:=SoundAt prog w0 g c
def Zqy:List Gv:=[⟨0,170,(.rows 7 fun i=>.ints .u64 5 (ZcA i))⟩]
def ZkU:List Gv:=[⟨0,170,(.rows 7 fun i=>.ints .u64 5 (ZcA i))⟩]
def ZiW:List Gv:=[⟨3,86,(.ints .u64 5 [1,0,0,0,0])⟩]
def Zve:List Gv:=[⟨3,86,(.ints .u64 5 [1,0,0,0,0])⟩]
def ZjO:List Gv:=[⟨3,86,(.ints .u64 5 [1,0,0,0,0])⟩]
def Ze9:List Gv:=[⟨6,65,(.ints .i64 10 [67108845,67108863,67108863,67108863,67108863,67108863,67108863,67108863,67108863,2097151])⟩]
def ZkV:List Gv:=[⟨4,65,(.ints .i64 10 [0,0,0,0,0,0,0,0,0,0])⟩,⟨6,65,(.ints .i64 10 [67108845,67108863,67108863,67108863,67108863,67108863,67108863,67108863,67108863,2097151])⟩]
def ZlS:List Gv:=[⟨4,65,(.ints .i64 10 [0,0,0,0,0,0,0,0,0,0])⟩]
def ZgW:List Gv:=[⟨4,65,(.ints .i64 10 [0,0,0,0,0,0,0,0,0,0])⟩]
def ZiX:List Gv:=[⟨1,65,(.ints .i64 10 [1,0,0,0,0,0,0,0,0,0])⟩]
def ZjP:List Gv:=[⟨1,65,(.ints .i64 10 [1,0,0,0,0,0,0,0,0,0])⟩,⟨4,65,(.ints .i64 10 [0,0,0,0,0,0,0,0,0,0])⟩]
def Zfn:List Gv:=[⟨1,65,(.ints .i64 10 [1,0,0,0,0,0,0,0,0,0])⟩]
def Zn0:List Gv:=[⟨2,189,(.agg [(.ints .u64 4 [6346243789798364141,1503914060200516822,0,1152921504606846976]),(.ints .u64 4 [15486807595281847581,14334777244411350896,18446744073709551614,1152921504606846975]),(.ints .u64 4 [11819153939886771969,14991950615390032711,14910419812499177061,259310039853996605]),(.ints .u64 4 [6346243789798364139,1503914060200516822,0,1152921504606846976])])⟩]
def ZgX:List Gv:=[⟨2,189,(.agg [(.ints .u64 4 [6346243789798364141,1503914060200516822,0,1152921504606846976]),(.ints .u64 4 [15486807595281847581,14334777244411350896,18446744073709551614,1152921504606846975]),(.ints .u64 4 [11819153939886771969,14991950615390032711,14910419812499177061,259310039853996605]),(.ints .u64 4 [6346243789798364139,1503914060200516822,0,1152921504606846976])])⟩]
structure Gs (w0:World):Prop where
 hg_veilref01_least:GO w0 Ze9
 hg_veilref01_F_Neg:GO w0 ZkV
 hg_veilref04_Neutral:GO w0 ZiX
 hg_veilref01_root:GO w0 ZlS
 hg_veilref01_SqrtRatio:GO w0 ZgW
 hg_veilref05_stands:GO w0 ZjP
 hg_veilref05_Point_Encode:GO w0 Zfn
 hg_scalar_lower:GO w0 Zn0
 hg_scalar_Scalar_Least:GO w0 ZgX
 hg_field_SqrtRatio:GO w0 ZkU
 hg_field_Const:GO w0 Zqy
 hg_curve_at:GO w0 Zve
 hg_curve_FromAffine:GO w0 ZjO
 hg_curve_place_whole:GO w0 ZiW
def ZnL:Ct:=fct (.cons (.int .u64) (.cons (.int .u64) (.one (.int .u64)))) (.tup (.cons (.int .u64) (.one (.int .u64)))) fun x=>Zec x.1 x.2.1 x.2.2
theorem Ztj{w0:World}:SA w0 109 ZnL:=
 ZDw func109 (by kernel_rfl) (by kernel_rfl) (by kernel_rfl) (by kernel_rfl)
def Zwa:Ct:=fct (.cons (.int .u64) (.cons (.int .u64) (.one (.int .u64)))) (.tup (.cons (.int .u64) (.one (.int .u64)))) fun x=>ZgR x.1 x.2.1 x.2.2
theorem ZCb{w0:World}:SA w0 132 Zwa:=
 ZDx func132 (by kernel_rfl) (by kernel_rfl) (by kernel_rfl) (by kernel_rfl)
abbrev Zpu:Ag (LI):=(.one (.ints .u64 5))
abbrev Zpv:Pt (LI):=(.ints .u64 5)
def ZjQ:Ct:=tct Zpu Zpv fun x=>Zbn x
def Zn1:List (FuncId×Ct):=[]
theorem Zwb:RunIs prog (Zn1) [] 0 [] f116 Zpu Zpv (fun x=>some (Zbn x)):=by
 intro x;kernel_rfl
theorem Zwc{w0:World}(hcs:∀ x∈Zn1,SA w0 x.1 x.2):SA w0 116 ZjQ:=by
 exact Za6 (Zak hcs (Zah _ _) func116 (by kernel_rfl) (by kernel_rfl) (S:=0) (fun w _=>Zae _) (fun _=>rfl) (Zwb)) fun _ _=>rfl
theorem Zwd{w0:World}:SA w0 116 ZjQ:=
 Zwc Zax
abbrev Zpw:Ag (LI):=(.one (.ints .u64 5))
abbrev Zpx:Pt (LI):=(.ints .u64 5)
def ZaR:Ct:=tct Zpw Zpx fun x=>Zaa x
def Zn2:List (FuncId×Ct):=[(116,ZjQ)]
theorem Zwe:RunIs prog (Zn2) [] 0 [] f90 Zpw Zpx (fun x=>some (Zaa x)):=by
 intro x;kernel_rfl
theorem Zwf{w0:World}(hcs:∀ x∈Zn2,SA w0 x.1 x.2):SA w0 90 ZaR:=by
 exact Za6 (Zak hcs (Zah _ _) func90 (by kernel_rfl) (by kernel_rfl) (S:=0) (fun w _=>Zae _) (fun _=>rfl) (Zwe)) fun _ _=>rfl
theorem Zbo{w0:World}:SA w0 90 ZaR:=
 Zwf (Zag (Zwd) Zax)
abbrev ZqX:Ag (LI):=(.one (.ints .u64 5))
abbrev ZqY:Pt (Bool):=.bool
def Zda:Ct:=tct ZqX ZqY fun x=>ZaC x
def Zpy:List (FuncId×Ct):=[]
theorem Zxs:RunIs prog (Zpy) [] 0 [] f89 ZqX ZqY (fun x=>some (ZaC x)):=by
 intro x;kernel_rfl
theorem Zxt{w0:World}(hcs:∀ x∈Zpy,SA w0 x.1 x.2):SA w0 89 Zda:=by
 exact Za6 (Zak hcs (Zah _ _) func89 (by kernel_rfl) (by kernel_rfl) (S:=0) (fun w _=>Zae _) (fun _=>rfl) (Zxs)) fun _ _=>rfl
theorem Ziz{w0:World}:SA w0 89 Zda:=
 Zxt Zax
abbrev Zyw:Ag ((Int×Int×Int×Int×Int)):=(.cons (.int .u64) (.cons (.int .u64) (.cons (.int .u64) (.cons (.int .u64) (.one (.int .u64))))))
abbrev Zyx:Pt (LI):=(.ints .u64 5)
def Zsc:Ct:=tct Zyw Zyx fun x=>ZgS x.1 x.2.1 x.2.2.1 x.2.2.2.1 x.2.2.2.2
def Zwg:List (FuncId×Ct):=[]
theorem ZCc:RunIs prog (Zwg) [] 0 [] f118 Zyw Zyx (fun x=>some (ZgS x.1 x.2.1 x.2.2.1 x.2.2.2.1 x.2.2.2.2)):=by
 intro x;kernel_rfl
theorem ZCd{w0:World}(hcs:∀ x∈Zwg,SA w0 x.1 x.2):SA w0 118 Zsc:=by
 exact Za6 (Zak hcs (Zah _ _) func118 (by kernel_rfl) (by kernel_rfl) (S:=0) (fun w _=>Zae _) (fun _=>rfl) (ZCc)) fun _ _=>rfl
theorem ZCe{w0:World}:SA w0 118 Zsc:=
 ZCd Zax
abbrev ZuU:Ag ((Int×Int×Int×Int×Int)):=(.cons (.int .u64) (.cons (.int .u64) (.cons (.int .u64) (.cons (.int .u64) (.one (.int .u64))))))
abbrev ZuV:Pt (LI):=(.ints .u64 5)
def ZhN:Ct:=tct ZuU ZuV fun x=>Zbj x.1 x.2.1 x.2.2.1 x.2.2.2.1 x.2.2.2.2
def Ztk:List (FuncId×Ct):=[(118,Zsc)]
theorem ZAv:RunIs prog (Ztk) [] 0 [] f93 ZuU ZuV (fun x=>Zqz x.1 x.2.1 x.2.2.1 x.2.2.2.1 x.2.2.2.2):=by
 intro x;kernel_rfl
theorem ZAw{w0:World}(hcs:∀ x∈Ztk,SA w0 x.1 x.2):SA w0 93 ZhN:=by
 exact Za6 (Zak hcs (Zah _ _) func93 (by kernel_rfl) (by kernel_rfl) (S:=0) (fun w _=>Zae _) (fun _=>rfl) (ZAv)) fun _ _=>ZyQ _ _ _ _ _
theorem ZqA{w0:World}:SA w0 93 ZhN:=
 ZAw (Zag (ZCe) Zax)
abbrev ZsA:Ag ((LI×LI)):=(.cons (.ints .u64 5) (.one (.ints .u64 5)))
abbrev ZsB:Pt (LI):=(.ints .u64 5)
def ZfI:Ct:=tct ZsA ZsB fun x=>Zbw x.1 x.2
def ZqZ:List (FuncId×Ct):=[(89,Zda),(90,ZaR),(93,ZhN)]
theorem ZyR:RunIs prog (ZqZ) [] 0 [] f61 ZsA ZsB (fun x=>Zm0 x.1 x.2):=by
 intro x;kernel_rfl
theorem ZyS{w0:World}(hcs:∀ x∈ZqZ,SA w0 x.1 x.2):SA w0 61 ZfI:=by
 exact Za6 (Zak hcs (Zah _ _) func61 (by kernel_rfl) (by kernel_rfl) (S:=0) (fun w _=>Zae _) (fun _=>rfl) (ZyR)) fun _ _=>Zwh _ _
theorem Zm1{w0:World}:SA w0 61 ZfI:=
 ZyS (Zag (Ziz) (Zag (Zbo) (Zag (ZqA) Zax)))
abbrev ZsC:Ag ((LI×LI)):=(.cons (.ints .u64 5) (.one (.ints .u64 5)))
abbrev ZsD:Pt (LI):=(.ints .u64 5)
def Zed:Ct:=tct ZsC ZsD fun x=>Za3 x.1 x.2
def Zq0:List (FuncId×Ct):=[(89,Zda),(90,ZaR),(93,ZhN)]
theorem ZyT:RunIs prog (Zq0) [] 0 [] f62 ZsC ZsD (fun x=>Zm2 x.1 x.2):=by
 intro x;kernel_rfl
theorem ZyU{w0:World}(hcs:∀ x∈Zq0,SA w0 x.1 x.2):SA w0 62 Zed:=by
 exact Za6 (Zak hcs (Zah _ _) func62 (by kernel_rfl) (by kernel_rfl) (S:=0) (fun w _=>Zae _) (fun _=>rfl) (ZyT)) fun _ _=>Zwi _ _
theorem ZjJ{w0:World}:SA w0 62 Zed:=
 ZyU (Zag (Ziz) (Zag (Zbo) (Zag (ZqA) Zax)))
abbrev ZsE:Ag (LI):=(.one (.ints .u64 5))
abbrev ZsF:Pt (LI):=(.ints .u64 5)
def Zee:Ct:=tct ZsE ZsF fun x=>Za4 x
def Zq1:List (FuncId×Ct):=[(62,Zed)]
theorem ZyV:RunIs prog (Zq1) [] 0 [] f69 ZsE ZsF (fun x=>some (Za4 x)):=by
 intro x;kernel_rfl
theorem ZyW{w0:World}(hcs:∀ x∈Zq1,SA w0 x.1 x.2):SA w0 69 Zee:=by
 exact Za6 (Zak hcs (Zah _ _) func69 (by kernel_rfl) (by kernel_rfl) (S:=0) (fun w _=>Zae _) (fun _=>rfl) (ZyV)) fun _ _=>rfl
theorem ZjK{w0:World}:SA w0 69 Zee:=
 ZyW (Zag (ZjJ) Zax)
abbrev Zyy:Ag ((Int×Int)):=(.cons (.int .u64) (.one (.int .u64)))
abbrev Zyz:Pt ((Int×Int)):=(.tup (.cons (.int .u64) (.one (.int .u64))))
def ZnM:Ct:=tct Zyy Zyz fun x=>ZgT x.1 x.2
def Zwj:List (FuncId×Ct):=[]
theorem ZCf:RunIs prog (Zwj) [] 0 [] f108 Zyy Zyz (fun x=>some (ZgT x.1 x.2)):=by
 intro x;kernel_rfl
theorem ZCg{w0:World}(hcs:∀ x∈Zwj,SA w0 x.1 x.2):SA w0 108 ZnM:=by
 exact Za6 (Zak hcs (Zah _ _) func108 (by kernel_rfl) (by kernel_rfl) (S:=0) (fun w _=>Zae _) (fun _=>rfl) (ZCf)) fun _ _=>rfl
theorem ZyA{w0:World}:SA w0 108 ZnM:=
 ZCg Zax
abbrev Zn3:Ag (((Int×Int)×Int×Int)):=(.cons (.agg (.cons (.int .u64) (.one (.int .u64)))) (.cons (.int .u64) (.one (.int .u64))))
abbrev Zn4:Pt ((Int×Int)):=(.agg (.cons (.int .u64) (.one (.int .u64))))
def ZdC:Ct:=fct Zn3 Zn4 fun x=>Zab x.1 x.2.1 x.2.2
def Zna:List (FuncId×Ct):=[(108,ZnM),(109,ZnL)]
theorem Zvf:RunIs prog (Zna) [] 0 [] f91 Zn3 Zn4 (fun x=>Zab x.1 x.2.1 x.2.2):=by
 intro x;kernel_rfl
theorem Zvg{w0:World}(hcs:∀ x∈Zna,SA w0 x.1 x.2):SA w0 91 ZdC:=by
 exact Zak hcs (Zah _ _) func91 (by kernel_rfl) (by kernel_rfl) (S:=0) (fun w _=>Zae _) (fun _=>rfl) (Zvf)
theorem ZjR{w0:World}:SA w0 91 ZdC:=
 Zvg (Zag (ZyA) (Zag (Ztj) Zax))
abbrev Zn5:Ag ((Int×Int)):=(.one (.agg (.cons (.int .u64) (.one (.int .u64)))))
abbrev Zn6:Pt (Int):=(.int .u64)
def ZiY:Ct:=tct Zn5 Zn6 fun x=>ZbZ x
def Znb:List (FuncId×Ct):=[]
theorem Zvh:RunIs prog (Znb) [] 0 [] f117 Zn5 Zn6 (fun x=>some (ZbZ x)):=by
 intro x;kernel_rfl
theorem Zvi{w0:World}(hcs:∀ x∈Znb,SA w0 x.1 x.2):SA w0 117 ZiY:=by
 exact Za6 (Zak hcs (Zah _ _) func117 (by kernel_rfl) (by kernel_rfl) (S:=0) (fun w _=>Zae _) (fun _=>rfl) (Zvh)) fun _ _=>rfl
theorem Zvj{w0:World}:SA w0 117 ZiY:=
 Zvi Zax
abbrev Ztl:Ag (((Int×Int)×(Int×Int)×(Int×Int)×(Int×Int)×(Int×Int))):=(.cons (.agg (.cons (.int .u64) (.one (.int .u64)))) (.cons (.agg (.cons (.int .u64) (.one (.int .u64)))) (.cons (.agg (.cons (.int .u64) (.one (.int .u64)))) (.cons (.agg (.cons (.int .u64) (.one (.int .u64)))) (.one (.agg (.cons (.int .u64) (.one (.int .u64)))))))))
abbrev Ztm:Pt (LI):=(.ints .u64 5)
def ZjL:Ct:=fct Ztl Ztm fun x=>ZcL x.1 x.2.1 x.2.2.1 x.2.2.2.1 x.2.2.2.2
def ZsG:List (FuncId×Ct):=[(91,ZdC),(93,ZhN),(117,ZiY)]
theorem Zzr:RunIs prog (ZsG) [] 0 [] f92 Ztl Ztm (fun x=>ZcL x.1 x.2.1 x.2.2.1 x.2.2.2.1 x.2.2.2.2):=by
 intro x;kernel_rfl
theorem Zzs{w0:World}(hcs:∀ x∈ZsG,SA w0 x.1 x.2):SA w0 92 ZjL:=by
 exact Zak hcs (Zah _ _) func92 (by kernel_rfl) (by kernel_rfl) (S:=0) (fun w _=>Zae _) (fun _=>rfl) (Zzr)
theorem Ztn{w0:World}:SA w0 92 ZjL:=
 Zzs (Zag (ZjR) (Zag (ZqA) (Zag (Zvj) Zax)))
abbrev ZsH:Ag ((LI×LI)):=(.cons (.ints .u64 5) (.one (.ints .u64 5)))
abbrev ZsI:Pt (LI):=(.ints .u64 5)
def ZbL:Ct:=fct ZsH ZsI fun x=>Zad x.1 x.2
def Zq2:List (FuncId×Ct):=[(89,Zda),(90,ZaR),(91,ZdC),(92,ZjL)]
theorem ZyX:RunIs prog (Zq2) [] 0 [] f60 ZsH ZsI (fun x=>Zad x.1 x.2):=by
 intro x;kernel_rfl
theorem ZyY{w0:World}(hcs:∀ x∈Zq2,SA w0 x.1 x.2):SA w0 60 ZbL:=by
 exact Zak hcs (Zah _ _) func60 (by kernel_rfl) (by kernel_rfl) (S:=0) (fun w _=>Zae _) (fun _=>rfl) (ZyX)
theorem Zct{w0:World}:SA w0 60 ZbL:=
 ZyY (Zag (Ziz) (Zag (Zbo) (Zag (ZjR) (Zag (Ztn) Zax))))
abbrev Zn7:Ag (LI):=(.one (.ints .u64 5))
abbrev Zn8:Pt (LI):=(.ints .u64 5)
def Zb7:Ct:=fct Zn7 Zn8 fun x=>ZaB x
def Znc:List (FuncId×Ct):=[(89,Zda),(90,ZaR),(91,ZdC),(92,ZjL)]
theorem Zvk:RunIs prog (Znc) [] 0 [] f64 Zn7 Zn8 (fun x=>ZaB x):=by
 intro x;kernel_rfl
theorem Zvl{w0:World}(hcs:∀ x∈Znc,SA w0 x.1 x.2):SA w0 64 Zb7:=by
 exact Zak hcs (Zah _ _) func64 (by kernel_rfl) (by kernel_rfl) (S:=0) (fun w _=>Zae _) (fun _=>rfl) (Zvk)
theorem ZcY{w0:World}:SA w0 64 Zb7:=
 Zvl (Zag (Ziz) (Zag (Zbo) (Zag (ZjR) (Zag (Ztn) Zax))))
abbrev ZyB:Ag (LI):=(.one (.ints .u8 32))
abbrev ZyC:Pt (LI):=(.ints .u64 5)
def Zsd:Ct:=tct ZyB ZyC fun x=>Zdb x
def Zwk:List (FuncId×Ct):=[]
theorem ZCh:RunIs prog (Zwk) [] 0 [] f170 ZyB ZyC (fun x=>some (Zdb x)):=by
 intro x;kernel_rfl
theorem ZCi{w0:World}(hcs:∀ x∈Zwk,SA w0 x.1 x.2):SA w0 170 Zsd:=by
 exact Za6 (Zak hcs (Zah _ _) func170 (by kernel_rfl) (by kernel_rfl) (S:=0) (fun w _=>Zae _) (fun _=>rfl) (ZCh)) fun _ _=>rfl
theorem ZCj{w0:World}:SA w0 170 Zsd:=
 ZCi Zax
abbrev ZuW:Ag (LI):=(.one (.ints .u8 32))
abbrev ZuX:Pt ((LI×Int)):=(.tup (.cons (.ints .u64 5) (.one (.int .i64))))
def Zn9:Ct:=tct ZuW ZuX fun x=>ZaG x
def Zto:List (FuncId×Ct):=[(90,ZaR),(170,Zsd)]
theorem ZAx:RunIs prog (Zto) [] 0 [] f168 ZuW ZuX (fun x=>ZqB x):=by
 intro x;kernel_rfl
theorem ZAy{w0:World}(hcs:∀ x∈Zto,SA w0 x.1 x.2):SA w0 168 Zn9:=by
 exact Za6 (Zak hcs (Zah _ _) func168 (by kernel_rfl) (by kernel_rfl) (S:=0) (fun w _=>Zae _) (fun _=>rfl) (ZAx)) fun _ _=>ZyZ _
theorem ZAz{w0:World}:SA w0 168 Zn9:=
 ZAy (Zag (Zbo) (Zag (ZCj) Zax))
abbrev Zoa:Ag (LI):=(.one (.ints .u64 5))
abbrev Zob:Pt (LI):=(.ints .u8 32)
def ZiZ:Ct:=tct Zoa Zob fun x=>Zb0 x
def Znd:List (FuncId×Ct):=[(90,ZaR)]
theorem Zvm:RunIs prog (Znd) [] 0 [] f71 Zoa Zob (fun x=>some (Zb0 x)):=by
 intro x;kernel_rfl
theorem Zvn{w0:World}(hcs:∀ x∈Znd,SA w0 x.1 x.2):SA w0 71 ZiZ:=by
 exact Za6 (Zak hcs (Zah _ _) func71 (by kernel_rfl) (by kernel_rfl) (S:=0) (fun w _=>Zae _) (fun _=>rfl) (Zvm)) fun _ _=>rfl
theorem Zvo{w0:World}:SA w0 71 ZiZ:=
 Zvn (Zag (Zbo) Zax)
abbrev Zne:Ag ((LI×Int)):=(.cons (.ints .u64 5) (.one (.int .i64)))
abbrev Znf:Pt (LI):=(.ints .u64 5)
def Zc6(N:Nat):Ct:=fct Zne Znf fun x=>Zap N x.1 x.2
def Zfa(N:Nat):List (FuncId×Ct):=[(64,Zb7)]
def Zf5:Fm ((Unit×Unit×Int×Int)) ((LI×Unit)):=⟨(.cons 2 (.lit (.ptr 0 [] 86)) (.cons 4 (.lit (.ptr 1 [] 86)) (.cons 5 (.int .i64) (.one 6 (.int .i64))))),(.cons 0 (.ints .u64 5) (.one 1 (.lit (.ints .u64 5 [0,0,0,0,0]))))⟩
def Zf6:Fm ((Unit×Unit)) ((LI×Unit)):=⟨(.cons 2 (.lit (.ptr 0 [] 86)) (.one 4 (.lit (.ptr 1 [] 86)))),(.cons 0 (.ints .u64 5) (.one 1 (.lit (.ints .u64 5 [0,0,0,0,0]))))⟩
def Zf7:Fm (Unit) (Unit):=⟨.nil,.nil⟩
def ZhO(N:Nat):List (Nat×Lf):=[(0,loopCt Zf5 Zf6 Zf7 4 (Zbk N) N)]
theorem Zph(N:Nat):StepIs prog (cxOf f115 (Zfa N) [] 0) (ZhO N) f115 0 4 Zf5 Zf6 Zf7 (Zbk N):=by
 intro v;kernel_rfl
theorem Zuv(N:Nat):RunIs prog (Zfa N) [] 0 (ZhO N) f115 Zne Znf (fun x=>Zap N x.1 x.2):=by
 intro x;kernel_rfl
theorem Zuw{w0:World}(N:Nat)(hcs:∀ x∈Zfa N,SA w0 x.1 x.2):SA w0 115 (Zc6 N):=by
 have L0:∀ w:Base,w.g=w0→LoopOK prog (cxOf f115 (Zfa N) [] 0) w 0 (.loop (loopBody f115 0)) (loopCt Zf5 Zf6 Zf7 4 (Zbk N) N):=
  Zfb hcs (ls:=ZhO N) (n:=100) (by kernel_rfl) (Zph N) N fun w hw=>ZaH (lp_no (by kernel_rfl) ZeI)
 exact Zak hcs (Zah _ _) func115 (by kernel_rfl) (by kernel_rfl) (S:=0) (fun w hw=>ZaH (Zmu (L0 w hw) (by kernel_rfl) ZeI)) (fun _=>rfl) (Zuv N)
theorem Zi0{w0:World}(N:Nat):SA w0 115 (Zc6 N):=
 Zuw N (Zag (ZcY) Zax)
abbrev Zq3:Ag (LI):=(.one (.ints .u64 5))
abbrev Zq4:Pt ((LI×LI)):=(.tup (.cons (.ints .u64 5) (.one (.ints .u64 5))))
def Zht(N:Nat):Ct:=fct Zq3 Zq4 fun x=>ZcM N x
def Zpz(N:Nat):List (FuncId×Ct):=[(60,ZbL),(64,Zb7),(115,(Zc6 N))]
theorem Zxu(N:Nat):RunIs prog (Zpz N) [] 0 [] f114 Zq3 Zq4 (fun x=>ZcM N x):=by
 intro x;kernel_rfl
theorem Zxv{w0:World}(N:Nat)(hcs:∀ x∈Zpz N,SA w0 x.1 x.2):SA w0 114 (Zht N):=by
 exact Zak hcs (Zah _ _) func114 (by kernel_rfl) (by kernel_rfl) (S:=0) (fun w _=>Zae _) (fun _=>rfl) (Zxu N)
theorem Zq5{w0:World}(N:Nat):SA w0 114 (Zht N):=
 Zxv N (Zag (Zct) (Zag (ZcY) (Zag (Zi0 N) Zax)))
abbrev Zoc:Ag (LI):=(.one (.ints .u64 5))
abbrev Zod:Pt (LI):=(.ints .u64 5)
def Zi1(N:Nat):Ct:=fct Zoc Zod fun x=>Zce N x
def Zng(N:Nat):List (FuncId×Ct):=[(60,ZbL),(114,(Zht N)),(115,(Zc6 N))]
theorem Zvp(N:Nat):RunIs prog (Zng N) [] 0 [] f88 Zoc Zod (fun x=>Zce N x):=by
 intro x;kernel_rfl
theorem Zvq{w0:World}(N:Nat)(hcs:∀ x∈Zng N,SA w0 x.1 x.2):SA w0 88 (Zi1 N):=by
 exact Zak hcs (Zah _ _) func88 (by kernel_rfl) (by kernel_rfl) (S:=0) (fun w _=>Zae _) (fun _=>rfl) (Zvp N)
theorem Zvr{w0:World}(N:Nat):SA w0 88 (Zi1 N):=
 Zvq N (Zag (Zct) (Zag (Zq5 N) (Zag (Zi0 N) Zax)))
abbrev Zq6:Ag (LI):=(.one (.ints .u64 5))
abbrev Zq7:Pt (LI):=(.ints .u64 5)
def ZkW(N:Nat):Ct:=fct Zq6 Zq7 fun x=>Zc7 N x
def ZpA(N:Nat):List (FuncId×Ct):=[(60,ZbL),(114,(Zht N)),(115,(Zc6 N))]
theorem Zxw(N:Nat):RunIs prog (ZpA N) [] 0 [] f94 Zq6 Zq7 (fun x=>Zc7 N x):=by
 intro x;kernel_rfl
theorem Zxx{w0:World}(N:Nat)(hcs:∀ x∈ZpA N,SA w0 x.1 x.2):SA w0 94 (ZkW N):=by
 exact Zak hcs (Zah _ _) func94 (by kernel_rfl) (by kernel_rfl) (S:=0) (fun w _=>Zae _) (fun _=>rfl) (Zxw N)
theorem Zxy{w0:World}(N:Nat):SA w0 94 (ZkW N):=
 Zxx N (Zag (Zct) (Zag (Zq5 N) (Zag (Zi0 N) Zax)))
abbrev ZsJ:Ag (LI):=(.one (.ints .u64 5))
abbrev ZsK:Pt (LI):=(.ints .u64 5)
def ZiA:Ct:=tct ZsJ ZsK fun x=>Zbx x
def Zq8:List (FuncId×Ct):=[]
theorem Zy0:RunIs prog (Zq8) [] 0 [] f59 ZsJ ZsK (fun x=>some (Zbx x)):=by
 intro x;kernel_rfl
theorem Zy1{w0:World}(hcs:∀ x∈Zq8,SA w0 x.1 x.2):SA w0 59 ZiA:=by
 exact Za6 (Zak hcs (Zah _ _) func59 (by kernel_rfl) (by kernel_rfl) (S:=0) (fun w _=>Zae _) (fun _=>rfl) (Zy0)) fun _ _=>rfl
theorem ZsL{w0:World}:SA w0 59 ZiA:=
 Zy1 Zax
abbrev Zoe:Ag (LI):=(.one (.ints .u64 5))
abbrev Zof:Pt (Bool):=.bool
def Zi2:Ct:=tct Zoe Zof fun x=>Zb1 x
def Znh:List (FuncId×Ct):=[(90,ZaR)]
theorem Zvs:RunIs prog (Znh) [] 0 [] f164 Zoe Zof (fun x=>some (Zb1 x)):=by
 intro x;kernel_rfl
theorem Zvt{w0:World}(hcs:∀ x∈Znh,SA w0 x.1 x.2):SA w0 164 Zi2:=by
 exact Za6 (Zak hcs (Zah _ _) func164 (by kernel_rfl) (by kernel_rfl) (S:=0) (fun w _=>Zae _) (fun _=>rfl) (Zvs)) fun _ _=>rfl
theorem Zvu{w0:World}:SA w0 164 Zi2:=
 Zvt (Zag (Zbo) Zax)
abbrev Zmv:Ag (LI):=(.one (.ints .u64 5))
abbrev Zmw:Pt (Bool):=.bool
def ZeD:Ct:=tct Zmv Zmw fun x=>Zaq x
def Zlv:List (FuncId×Ct):=[(90,ZaR)]
theorem Ztp:RunIs prog (Zlv) [] 0 [] f66 Zmv Zmw (fun x=>some (Zaq x)):=by
 intro x;kernel_rfl
theorem Ztq{w0:World}(hcs:∀ x∈Zlv,SA w0 x.1 x.2):SA w0 66 ZeD:=by
 exact Za6 (Zak hcs (Zah _ _) func66 (by kernel_rfl) (by kernel_rfl) (S:=0) (fun w _=>Zae _) (fun _=>rfl) (Ztp)) fun _ _=>rfl
theorem Zmx{w0:World}:SA w0 66 ZeD:=
 Ztq (Zag (Zbo) Zax)
abbrev ZuY:Ag ((Int×LI×LI)):=(.cons (.int .i64) (.cons (.ints .u64 5) (.one (.ints .u64 5))))
abbrev ZuZ:Pt (LI):=(.ints .u64 5)
def ZkX:Ct:=tct ZuY ZuZ fun x=>Zbb x.1 x.2.1 x.2.2
def Ztr:List (FuncId×Ct):=[(90,ZaR)]
theorem ZAA:RunIs prog (Ztr) [] 0 [] f68 ZuY ZuZ (fun x=>some (Zbb x.1 x.2.1 x.2.2)):=by
 intro x;kernel_rfl
theorem ZAB{w0:World}(hcs:∀ x∈Ztr,SA w0 x.1 x.2):SA w0 68 ZkX:=by
 exact Za6 (Zak hcs (Zah _ _) func68 (by kernel_rfl) (by kernel_rfl) (S:=0) (fun w _=>Zae _) (fun _=>rfl) (ZAA)) fun _ _=>rfl
theorem Zu0{w0:World}:SA w0 68 ZkX:=
 ZAB (Zag (Zbo) Zax)
abbrev ZsM:Ag (LI):=(.one (.ints .u64 5))
abbrev ZsN:Pt (LI):=(.ints .u64 5)
def ZfJ:Ct:=tct ZsM ZsN fun x=>Zas x
def Zq9:List (FuncId×Ct):=[(68,ZkX),(69,Zee),(90,ZaR)]
theorem Zy2:RunIs prog (Zq9) [] 0 [] f70 ZsM ZsN (fun x=>some (Zas x)):=by
 intro x;kernel_rfl
theorem Zy3{w0:World}(hcs:∀ x∈Zq9,SA w0 x.1 x.2):SA w0 70 ZfJ:=by
 exact Za6 (Zak hcs (Zah _ _) func70 (by kernel_rfl) (by kernel_rfl) (S:=0) (fun w _=>Zae _) (fun _=>rfl) (Zy2)) fun _ _=>rfl
theorem Zm3{w0:World}:SA w0 70 ZfJ:=
 Zy3 (Zag (Zu0) (Zag (ZjK) (Zag (Zbo) Zax)))
abbrev Zwl:Ag (Int):=(.one (.int .i64))
abbrev Zwm:Pt (LI):=(.ints .u64 5)
def Zjy:Ct:=fct Zwl Zwm fun x=>Zdh x
def Zu1:List (FuncId×Ct):=[]
theorem ZBe:RunIs prog (Zu1) Zqy 0 [] f67 Zwl Zwm (fun x=>Zdh x):=by
 intro x;kernel_rfl
theorem ZBf{w0:World}(hcs:∀ x∈Zu1,SA w0 x.1 x.2)(hg:GO w0 Zqy):SA w0 67 Zjy:=by
 exact Zak hcs hg func67 (by kernel_rfl) (by kernel_rfl) (S:=0) (fun w _=>Zae _) (fun _=>rfl) (ZBe)
theorem Zse{w0:World}(G:Gs w0):SA w0 67 Zjy:=
 ZBf Zax G.hg_field_Const
abbrev Zra:Ag ((LI×LI)):=(.cons (.ints .u64 5) (.one (.ints .u64 5)))
abbrev Zrb:Pt ((LI×Bool)):=(.tup (.cons (.ints .u64 5) (.one .bool)))
def Zhu(N:Nat):Ct:=fct Zra Zrb fun x=>ZbT N x.1 x.2
def ZpB(N:Nat):List (FuncId×Ct):=[(60,ZbL),(64,Zb7),(69,Zee),(70,ZfJ),(90,ZaR),(94,(ZkW N))]
theorem Zxz(N:Nat):RunIs prog (ZpB N) ZkU 0 [] f63 Zra Zrb (fun x=>ZbT N x.1 x.2):=by
 intro x;kernel_rfl
theorem ZxA{w0:World}(N:Nat)(hcs:∀ x∈ZpB N,SA w0 x.1 x.2)(hg:GO w0 ZkU):SA w0 63 (Zhu N):=by
 exact Zak hcs hg func63 (by kernel_rfl) (by kernel_rfl) (S:=0) (fun w _=>Zae _) (fun _=>rfl) (Zxz N)
theorem Zrc{w0:World}(N:Nat)(G:Gs w0):SA w0 63 (Zhu N):=
 ZxA N (Zag (Zct) (Zag (ZcY) (Zag (ZjK) (Zag (Zm3) (Zag (Zbo) (Zag (Zxy N) Zax)))))) G.hg_field_SqrtRatio
abbrev Zog:Ag ((LI×LI×LI×LI)):=(.one (.agg (.cons (.ints .u64 5) (.cons (.ints .u64 5) (.cons (.ints .u64 5) (.one (.ints .u64 5)))))))
abbrev Zoh:Pt ((LI×LI×LI×LI)):=(.agg (.cons (.ints .u64 5) (.cons (.ints .u64 5) (.cons (.ints .u64 5) (.one (.ints .u64 5))))))
def Zi3:Ct:=tct Zog Zoh fun x=>Zb2 x
def Zni:List (FuncId×Ct):=[]
theorem Zvv:RunIs prog (Zni) ZiW 0 [] f87 Zog Zoh (fun x=>ZjS x):=by
 intro x;kernel_rfl
theorem Zvw{w0:World}(hcs:∀ x∈Zni,SA w0 x.1 x.2)(hg:GO w0 ZiW):SA w0 87 Zi3:=by
 exact Za6 (Zak hcs hg func87 (by kernel_rfl) (by kernel_rfl) (S:=0) (fun w _=>Zae _) (fun _=>rfl) (Zvv)) fun _ _=>Zts _
theorem Zvx{w0:World}(G:Gs w0):SA w0 87 Zi3:=
 Zvw Zax G.hg_curve_place_whole
abbrev ZAN:Ag ((LI×LI)):=(.cons (.ints .u64 5) (.one (.ints .u64 5)))
abbrev ZAO:Pt ((LI×LI×LI×LI)):=(.agg (.one (.agg (.cons (.ints .u64 5) (.cons (.ints .u64 5) (.cons (.ints .u64 5) (.one (.ints .u64 5))))))))
def Zvy:Ct:=fct ZAN ZAO fun x=>Zzi x.1 x.2
def Zzt:List (FuncId×Ct):=[(60,ZbL)]
theorem ZFc:RunIs prog (Zzt) Zve 0 [] f171 ZAN ZAO (fun x=>Zzi x.1 x.2):=by
 intro x;kernel_rfl
theorem ZFd{w0:World}(hcs:∀ x∈Zzt,SA w0 x.1 x.2)(hg:GO w0 Zve):SA w0 171 Zvy:=by
 exact Zak hcs hg func171 (by kernel_rfl) (by kernel_rfl) (S:=0) (fun w _=>Zae _) (fun _=>rfl) (ZFc)
theorem ZFe{w0:World}(G:Gs w0):SA w0 171 Zvy:=
 ZFd (Zag (Zct) Zax) G.hg_curve_at
abbrev Znj:Ag ((LI×LI×LI×LI)):=(.one (.agg (.one (.agg (.cons (.ints .u64 5) (.cons (.ints .u64 5) (.cons (.ints .u64 5) (.one (.ints .u64 5)))))))))
abbrev Znk:Pt ((LI×LI)):=(.tup (.cons (.ints .u64 5) (.one (.ints .u64 5))))
def ZhP(N:Nat):Ct:=fct Znj Znk fun x=>Zbc N x
def Zmy(N:Nat):List (FuncId×Ct):=[(60,ZbL),(87,Zi3),(88,(Zi1 N))]
theorem Zux(N:Nat):RunIs prog (Zmy N) [] 0 [] f58 Znj Znk (fun x=>Zbc N x):=by
 intro x;kernel_rfl
theorem Zuy{w0:World}(N:Nat)(hcs:∀ x∈Zmy N,SA w0 x.1 x.2):SA w0 58 (ZhP N):=by
 exact Zak hcs (Zah _ _) func58 (by kernel_rfl) (by kernel_rfl) (S:=0) (fun w _=>Zae _) (fun _=>rfl) (Zux N)
theorem Zuz{w0:World}(N:Nat)(G:Gs w0):SA w0 58 (ZhP N):=
 Zuy N (Zag (Zct) (Zag (Zvx G) (Zag (Zvr N) Zax)))
abbrev ZpC:Ag ((LI×LI)):=(.cons (.ints .u64 5) (.one (.ints .u64 5)))
abbrev ZpD:Pt (((LI×LI×LI×LI)×Int)):=(.tup (.cons (.agg (.one (.agg (.cons (.ints .u64 5) (.cons (.ints .u64 5) (.cons (.ints .u64 5) (.one (.ints .u64 5)))))))) (.one (.int .i64))))
def ZjT:Ct:=fct ZpC ZpD fun x=>Zdi x.1 x.2
def Zoi:List (FuncId×Ct):=[(60,ZbL),(61,ZfI),(62,Zed),(64,Zb7),(67,Zjy),(90,ZaR),(171,Zvy)]
theorem Zwn:RunIs prog (Zoi) ZjO 0 [] f169 ZpC ZpD (fun x=>Zdi x.1 x.2):=by
 intro x;kernel_rfl
theorem Zwo{w0:World}(hcs:∀ x∈Zoi,SA w0 x.1 x.2)(hg:GO w0 ZjO):SA w0 169 ZjT:=by
 exact Zak hcs hg func169 (by kernel_rfl) (by kernel_rfl) (S:=0) (fun w _=>Zae _) (fun _=>rfl) (Zwn)
theorem Zwp{w0:World}(G:Gs w0):SA w0 169 ZjT:=
 Zwo (Zag (Zct) (Zag (Zm1) (Zag (ZjJ) (Zag (ZcY) (Zag (Zse G) (Zag (Zbo) (Zag (ZFe G) Zax))))))) G.hg_curve_FromAffine
abbrev ZyD:Ag (Bool):=(.one .bool)
abbrev ZyE:Pt (Int):=(.int .i64)
def Zsf:Ct:=tct ZyD ZyE fun x=>ZbM x
def Zwq:List (FuncId×Ct):=[]
theorem ZCk:RunIs prog (Zwq) [] 0 [] f65 ZyD ZyE (fun x=>Ztt x):=by
 intro x;kernel_rfl
theorem ZCl{w0:World}(hcs:∀ x∈Zwq,SA w0 x.1 x.2):SA w0 65 Zsf:=by
 exact Za6 (Zak hcs (Zah _ _) func65 (by kernel_rfl) (by kernel_rfl) (S:=0) (fun w _=>Zae _) (fun _=>rfl) (ZCk)) fun _ _=>ZAC _
theorem ZCm{w0:World}:SA w0 65 Zsf:=
 ZCl Zax
def ZgY:Ag ((LI×LI×LI×LI)):=(.one (.agg (.one (.agg (.one (.agg (.cons (.ints .u64 5) (.cons (.ints .u64 5) (.cons (.ints .u64 5) (.one (.ints .u64 5)))))))))))
def ZgZ:Ent (Unit):=.nil
def Zg0:Ent (Unit):=.nil
def Zg1:Pt (LI):=(.ints .u8 32)
def Zg2:Ent (Unit):=.nil
abbrev Zf8(w0:World)(N:Nat):Prop:=SoundIo prog w0 39 64 88 ZgY ZgZ Zg0 Zg1 Zg2 [] (fun x=>Zb9 N x.1 x.2.1 x.2.2)
def Zlw(N:Nat):List (FuncId×Ct):=[(58,(ZhP N)),(59,ZiA),(60,ZbL),(61,ZfI),(62,Zed),(63,(Zhu N)),(64,Zb7),(65,Zsf),(66,ZeD),(67,Zjy),(68,ZkX),(69,Zee),(70,ZfJ),(71,ZiZ)]
abbrev Zlx(N:Nat):List (FuncId×Inl):=[]
theorem Ztu(N:Nat):IoRunIs prog (Zlw N) [] 64 (Zlx N) [] f39 88 ZgY ZgZ Zg0 Zg1 Zg2 [] (fun x=>Zb9 N x.1 x.2.1 x.2.2):=by
 intro x;kernel_rfl
theorem Ztv{w0:World}(N:Nat)(hcs:∀ x∈Zlw N,SA w0 x.1 x.2):Zf8 w0 N:=by
 have ik:AllOK prog w0 [] 64 (Zlx N):=Za0
 exact ZaI hcs (Zah _ _) ik func39 (by kernel_rfl) (by kernel_rfl) (fun w _ _=>Zae _) (by kernel_rfl) (Ztu N)
theorem Ztw{w0:World}(N:Nat)(G:Gs w0):Zf8 w0 N:=
 Ztv N (Zag (Zuz N G) (Zag (ZsL) (Zag (Zct) (Zag (Zm1) (Zag (ZjJ) (Zag (Zrc N G) (Zag (ZcY) (Zag (ZCm) (Zag (Zmx) (Zag (Zse G) (Zag (Zu0) (Zag (ZjK) (Zag (Zm3) (Zag (Zvo) Zax))))))))))))))
def Zg3:Ag (((LI×LI×LI×LI)×LI)):=(.cons (.agg (.one (.agg (.one (.agg (.cons (.ints .u64 5) (.cons (.ints .u64 5) (.cons (.ints .u64 5) (.one (.ints .u64 5)))))))))) (.one (.ints .u8 32)))
def Zg4:Ent (Unit):=.nil
def Zg5:Ent (Unit):=.nil
def Zg6:Pt (((LI×LI×LI×LI)×Int)):=(.tup (.cons (.agg (.one (.agg (.one (.agg (.cons (.ints .u64 5) (.cons (.ints .u64 5) (.cons (.ints .u64 5) (.one (.ints .u64 5)))))))))) (.one (.int .i64))))
def Zg7:Ent (Unit):=.nil
abbrev Zf9(w0:World)(N:Nat):Prop:=SoundIo prog w0 167 64 88 Zg3 Zg4 Zg5 Zg6 Zg7 [] (fun x=>Zca N x.1 x.2.1 x.2.2)
def Zly(N:Nat):List (FuncId×Ct):=[(59,ZiA),(60,ZbL),(61,ZfI),(62,Zed),(63,(Zhu N)),(64,Zb7),(66,ZeD),(67,Zjy),(69,Zee),(70,ZfJ),(164,Zi2),(168,Zn9),(169,ZjT)]
abbrev Zlz(N:Nat):List (FuncId×Inl):=[]
theorem Ztx(N:Nat):IoRunIs prog (Zly N) [] 64 (Zlz N) [] f167 88 Zg3 Zg4 Zg5 Zg6 Zg7 [] (fun x=>Zca N x.1 x.2.1 x.2.2):=by
 intro x;kernel_rfl
theorem Zty{w0:World}(N:Nat)(hcs:∀ x∈Zly N,SA w0 x.1 x.2):Zf9 w0 N:=by
 have ik:AllOK prog w0 [] 64 (Zlz N):=Za0
 exact ZaI hcs (Zah _ _) ik func167 (by kernel_rfl) (by kernel_rfl) (fun w _ _=>Zae _) (by kernel_rfl) (Ztx N)
theorem Ztz{w0:World}(N:Nat)(G:Gs w0):Zf9 w0 N:=
 Zty N (Zag (ZsL) (Zag (Zct) (Zag (Zm1) (Zag (ZjJ) (Zag (Zrc N G) (Zag (ZcY) (Zag (Zmx) (Zag (Zse G) (Zag (ZjK) (Zag (Zm3) (Zag (Zvu) (Zag (ZAz) (Zag (Zwp G) Zax)))))))))))))
abbrev Zrd:Ag ((LI×LI)):=(.cons (.ints .i64 10) (.one (.ints .i64 10)))
abbrev Zre:Pt (Bool):=.bool
def ZkY:Ct:=tct Zrd Zre fun x=>ZcN x.1 x.2
def ZpE:List (FuncId×Ct):=[]
theorem ZxB:RunIs prog (ZpE) [] 0 [] f137 Zrd Zre (fun x=>ZlT x.1 x.2):=by
 intro x;kernel_rfl
theorem ZxC{w0:World}(hcs:∀ x∈ZpE,SA w0 x.1 x.2):SA w0 137 ZkY:=by
 exact Za6 (Zak hcs (Zah _ _) func137 (by kernel_rfl) (by kernel_rfl) (S:=0) (fun w _=>Zae _) (fun _=>rfl) (ZxB)) fun _ _=>Zvz _ _
theorem ZxD{w0:World}:SA w0 137 ZkY:=
 ZxC Zax
abbrev Zrf:Ag ((LI×LI)):=(.cons (.ints .i64 10) (.one (.ints .i64 10)))
abbrev Zrg:Pt (LI):=(.ints .i64 10)
def Zhv:Ct:=tct Zrf Zrg fun x=>ZbU x.1 x.2
def ZpF:List (FuncId×Ct):=[]
theorem ZxE:RunIs prog (ZpF) [] 0 [] f134 Zrf Zrg (fun x=>some (ZbU x.1 x.2)):=by
 intro x;kernel_rfl
theorem ZxF{w0:World}(hcs:∀ x∈ZpF,SA w0 x.1 x.2):SA w0 134 Zhv:=by
 exact Za6 (Zak hcs (Zah _ _) func134 (by kernel_rfl) (by kernel_rfl) (S:=0) (fun w _=>Zae _) (fun _=>rfl) (ZxE)) fun _ _=>rfl
theorem Zrh{w0:World}:SA w0 134 Zhv:=
 ZxF Zax
abbrev Zri:Ag (LI):=(.one (.ints .i64 20))
abbrev Zrj:Pt (LI):=(.ints .i64 10)
def Zfc(N:Nat):Ct:=fct Zri Zrj fun x=>Zbg N x
def Zhw(N:Nat):List (FuncId×Ct):=[(134,Zhv),(137,ZkY)]
def Zi4:Fm ((Unit×Int×Unit×Bool)) ((Unit×Unit×LI)):=⟨(.cons 2 (.lit (.ptr 2 [] 65)) (.cons 3 (.int .i64) (.cons 5 (.lit (.ptr 387 [] 65)) (.one 7 .bool)))),(.cons 0 (.lit (.ints .i64 10 [67108845,67108863,67108863,67108863,67108863,67108863,67108863,67108863,67108863,2097151])) (.cons 2 (.lit (.ints .i64 10 [0,0,0,0,0,0,0,0,0,0])) (.one 387 (.ints .i64 10))))⟩
def Zi5:Fm ((Unit×Unit)) ((Unit×Unit×LI)):=⟨(.cons 2 (.lit (.ptr 2 [] 65)) (.one 5 (.lit (.ptr 387 [] 65)))),(.cons 0 (.lit (.ints .i64 10 [67108845,67108863,67108863,67108863,67108863,67108863,67108863,67108863,67108863,2097151])) (.cons 2 (.lit (.ints .i64 10 [0,0,0,0,0,0,0,0,0,0])) (.one 387 (.ints .i64 10))))⟩
def Zi6:Fm (Unit) (Unit):=⟨.nil,.nil⟩
def ZkZ(N:Nat):List (Nat×Lf):=[(4,loopCt Zi4 Zi5 Zi6 563 (ZaS N) N)]
theorem Zsg(N:Nat):StepIs prog (cxOf f128 (Zhw N) Ze9 0) (ZkZ N) f128 4 563 Zi4 Zi5 Zi6 (ZaS N):=by
 intro v;kernel_rfl
theorem ZxG(N:Nat):RunIs prog (Zhw N) Ze9 0 (ZkZ N) f128 Zri Zrj (fun x=>Zbg N x):=by
 intro x;kernel_rfl
theorem ZxH{w0:World}(N:Nat)(hcs:∀ x∈Zhw N,SA w0 x.1 x.2)(hg:GO w0 Ze9):SA w0 128 (Zfc N):=by
 have L4:∀ w:Base,w.g=w0→LoopOK prog (cxOf f128 (Zhw N) Ze9 0) w 4 (.loop (loopBody f128 4)) (loopCt Zi4 Zi5 Zi6 563 (ZaS N) N):=
  Zfb hcs (ls:=ZkZ N) (n:=100) (by kernel_rfl) (Zsg N) N fun w hw=>ZaH (lp_no (by kernel_rfl) ZeI)
 exact Zak hcs hg func128 (by kernel_rfl) (by kernel_rfl) (S:=0) (fun w hw=>ZaH (Zmu (L4 w hw) (by kernel_rfl) ZeI)) (fun _=>rfl) (ZxG N)
theorem ZlU{w0:World}(N:Nat)(G:Gs w0):SA w0 128 (Zfc N):=
 ZxH N (Zag (Zrh) (Zag (ZxD) Zax)) G.hg_veilref01_least
abbrev Zrk:Ag ((LI×LI)):=(.cons (.ints .i64 10) (.one (.ints .i64 10)))
abbrev Zrl:Pt (LI):=(.ints .i64 10)
def Zfd(N:Nat):Ct:=fct Zrk Zrl fun x=>ZbB N x.1 x.2
def ZpG(N:Nat):List (FuncId×Ct):=[(128,(Zfc N))]
theorem ZxI(N:Nat):RunIs prog (ZpG N) [] 0 [] f102 Zrk Zrl (fun x=>ZbB N x.1 x.2):=by
 intro x;kernel_rfl
theorem ZxJ{w0:World}(N:Nat)(hcs:∀ x∈ZpG N,SA w0 x.1 x.2):SA w0 102 (Zfd N):=by
 exact Zak hcs (Zah _ _) func102 (by kernel_rfl) (by kernel_rfl) (S:=0) (fun w _=>Zae _) (fun _=>rfl) (ZxI N)
theorem ZlV{w0:World}(N:Nat)(G:Gs w0):SA w0 102 (Zfd N):=
 ZxJ N (Zag (ZlU N G) Zax)
abbrev Zrm:Ag (LI):=(.one (.ints .i64 10))
abbrev Zrn:Pt (LI):=(.ints .i64 10)
def Zdc:Ct:=tct Zrm Zrn fun x=>Zat x
def ZpH:List (FuncId×Ct):=[(134,Zhv)]
theorem ZxK:RunIs prog (ZpH) ZkV 0 [] f124 Zrm Zrn (fun x=>ZlW x):=by
 intro x;kernel_rfl
theorem ZxL{w0:World}(hcs:∀ x∈ZpH,SA w0 x.1 x.2)(hg:GO w0 ZkV):SA w0 124 Zdc:=by
 exact Za6 (Zak hcs hg func124 (by kernel_rfl) (by kernel_rfl) (S:=0) (fun w _=>Zae _) (fun _=>rfl) (ZxK)) fun _ _=>ZvA _
theorem ZiB{w0:World}(G:Gs w0):SA w0 124 Zdc:=
 ZxL (Zag (Zrh) Zax) G.hg_veilref01_F_Neg
abbrev Zro:Ag ((LI×LI)):=(.cons (.ints .i64 10) (.one (.ints .i64 10)))
abbrev Zrp:Pt (LI):=(.ints .i64 10)
def Zhx(N:Nat):Ct:=fct Zro Zrp fun x=>Zcb N x.1 x.2
def ZpI(N:Nat):List (FuncId×Ct):=[(102,(Zfd N)),(124,Zdc)]
theorem ZxM(N:Nat):RunIs prog (ZpI N) [] 0 [] f101 Zro Zrp (fun x=>Zcb N x.1 x.2):=by
 intro x;kernel_rfl
theorem ZxN{w0:World}(N:Nat)(hcs:∀ x∈ZpI N,SA w0 x.1 x.2):SA w0 101 (Zhx N):=by
 exact Zak hcs (Zah _ _) func101 (by kernel_rfl) (by kernel_rfl) (S:=0) (fun w _=>Zae _) (fun _=>rfl) (ZxM N)
theorem Zrq{w0:World}(N:Nat)(G:Gs w0):SA w0 101 (Zhx N):=
 ZxN N (Zag (ZlV N G) (Zag (ZiB G) Zax))
abbrev Zrr:Ag ((LI×LI)):=(.cons (.ints .i64 10) (.one (.ints .i64 10)))
abbrev Zrs:Pt (LI):=(.ints .i64 10)
def Zco(N:Nat):Ct:=fct Zrr Zrs fun x=>Zam N x.1 x.2
def ZpJ(N:Nat):List (FuncId×Ct):=[(128,(Zfc N))]
theorem ZxO(N:Nat):RunIs prog (ZpJ N) [] 0 [] f123 Zrr Zrs (fun x=>Zam N x.1 x.2):=by
 intro x;kernel_rfl
theorem ZxP{w0:World}(N:Nat)(hcs:∀ x∈ZpJ N,SA w0 x.1 x.2):SA w0 123 (Zco N):=by
 exact Zak hcs (Zah _ _) func123 (by kernel_rfl) (by kernel_rfl) (S:=0) (fun w _=>Zae _) (fun _=>rfl) (ZxO N)
theorem Zef{w0:World}(N:Nat)(G:Gs w0):SA w0 123 (Zco N):=
 ZxP N (Zag (ZlU N G) Zax)
abbrev Zhy:Ag ((LI×Int)):=(.cons (.ints .i64 10) (.one (.int .i64)))
abbrev Zhz:Pt (LI):=(.ints .i64 10)
def ZjU(N:Nat):Ct:=fct Zhy Zhz fun x=>Zdj N x.1 x.2
def Zrt(rec:LI→Int→Option (LI))(N:Nat):Ct:=fct Zhy Zhz fun x=>ZbQ rec N x.1 x.2
def Zdd(rec:LI→Int→Option (LI))(N:Nat):List (FuncId×Ct):=[(123,(Zco N)),(135,(fct (.cons (.ints .i64 10) (.one (.int .i64))) (.ints .i64 10) fun x=>rec x.1 x.2))]
def ZhQ:Fm ((Int×Unit×Unit×Unit×Unit×Int)) ((LI×Unit×LI×LI)):=⟨(.cons 1 (.int .i64) (.cons 2 (.lit (.ptr 0 [] 65)) (.cons 4 (.lit (.ptr 1 [] 65)) (.cons 5 (.lit (.ptr 8 [] 65)) (.cons 6 (.lit (.ptr 11 [] 65)) (.one 7 (.int .i64))))))),(.cons 0 (.ints .i64 10) (.cons 1 (.lit (.ints .i64 10 [0,0,0,0,0,0,0,0,0,0])) (.cons 8 (.ints .i64 10) (.one 11 (.ints .i64 10)))))⟩
def ZhR:Fm ((Int×Unit×Unit×Unit×Unit)) ((LI×Unit×LI×LI)):=⟨(.cons 1 (.int .i64) (.cons 2 (.lit (.ptr 0 [] 65)) (.cons 4 (.lit (.ptr 1 [] 65)) (.cons 5 (.lit (.ptr 8 [] 65)) (.one 6 (.lit (.ptr 11 [] 65))))))),(.cons 0 (.ints .i64 10) (.cons 1 (.lit (.ints .i64 10 [0,0,0,0,0,0,0,0,0,0])) (.cons 8 (.ints .i64 10) (.one 11 (.ints .i64 10)))))⟩
def ZhS:Fm (Unit) (Unit):=⟨.nil,.nil⟩
def ZfK(rec:LI→Int→Option (LI))(N:Nat):List (Nat×Lf):=[(0,loopCt ZhQ ZhR ZhS 14 (Zbq N) N)]
theorem Zru(rec:LI→Int→Option (LI))(N:Nat):StepIs prog (cxOf f135 (Zdd rec N) [] 0) (ZfK rec N) f135 0 14 ZhQ ZhR ZhS (Zbq N):=by
 intro v;kernel_rfl
theorem Zsh(rec:LI→Int→Option (LI))(N:Nat):RunIs prog (Zdd rec N) [] 0 (ZfK rec N) f135 Zhy Zhz (fun x=>ZbQ rec N x.1 x.2):=by
 intro x;kernel_rfl
theorem Zsi{w0:World}(rec:LI→Int→Option (LI))(N:Nat)(hcs:∀ x∈Zdd rec N,SA w0 x.1 x.2):SA w0 135 (Zrt rec N):=by
 have L0:∀ w:Base,w.g=w0→LoopOK prog (cxOf f135 (Zdd rec N) [] 0) w 0 (.loop (loopBody f135 0)) (loopCt ZhQ ZhR ZhS 14 (Zbq N) N):=
  Zfb hcs (ls:=ZfK rec N) (n:=100) (by kernel_rfl) (Zru rec N) N fun w hw=>ZaH (lp_no (by kernel_rfl) ZeI)
 exact Zak hcs (Zah _ _) func135 (by kernel_rfl) (by kernel_rfl) (S:=0) (fun w hw=>ZaH (Zmu (L0 w hw) (by kernel_rfl) ZeI)) (fun _=>rfl) (Zsh rec N)
theorem ZpK{w0:World}(N:Nat)(G:Gs w0):SA w0 135 (ZjU N):=by
 have h:∀ m,SA w0 135 (fct Zhy Zhz fun x=>Zcc N m x.1 x.2):=by
  intro m
  induction m with
  |zero=>exact ZDy
  |succ m ih=>exact Zsi (Zcc N m) N (Zag (Zef N G) (Zag ih Zax))
 exact h N
abbrev Znl:Ag (LI):=(.one (.ints .i64 10))
abbrev Znm:Pt (LI):=(.ints .i64 10)
def Zfe(N:Nat):Ct:=fct Znl Znm fun x=>ZbP N x
def Zmz(N:Nat):List (FuncId×Ct):=[(123,(Zco N)),(135,(ZjU N))]
theorem ZuA(N:Nat):RunIs prog (Zmz N) [] 0 [] f126 Znl Znm (fun x=>ZbP N x):=by
 intro x;kernel_rfl
theorem ZuB{w0:World}(N:Nat)(hcs:∀ x∈Zmz N,SA w0 x.1 x.2):SA w0 126 (Zfe N):=by
 exact Zak hcs (Zah _ _) func126 (by kernel_rfl) (by kernel_rfl) (S:=0) (fun w _=>Zae _) (fun _=>rfl) (ZuA N)
theorem Znn{w0:World}(N:Nat)(G:Gs w0):SA w0 126 (Zfe N):=
 ZuB N (Zag (Zef N G) (Zag (ZpK N G) Zax))
abbrev ZlA:Ag (LI):=(.one (.ints .i64 10))
abbrev ZlB:Pt (Bool):=.bool
def ZdH:Ct:=tct ZlA ZlB fun x=>Zbh x
def Zk0:List (FuncId×Ct):=[]
theorem ZsY:RunIs prog (Zk0) [] 0 [] f120 ZlA ZlB (fun x=>some (Zbh x)):=by
 intro x;kernel_rfl
theorem ZsZ{w0:World}(hcs:∀ x∈Zk0,SA w0 x.1 x.2):SA w0 120 ZdH:=by
 exact Za6 (Zak hcs (Zah _ _) func120 (by kernel_rfl) (by kernel_rfl) (S:=0) (fun w _=>Zae _) (fun _=>rfl) (ZsY)) fun _ _=>rfl
theorem ZlC{w0:World}:SA w0 120 ZdH:=
 ZsZ Zax
abbrev Zrv:Ag (LI):=(.one (.ints .i64 10))
abbrev Zrw:Pt (LI):=(.ints .i64 10)
def Zk1:Ct:=tct Zrv Zrw fun x=>Zcp x
def ZpL:List (FuncId×Ct):=[(124,Zdc)]
theorem ZxQ:RunIs prog (ZpL) [] 0 [] f136 Zrv Zrw (fun x=>ZlX x):=by
 intro x;kernel_rfl
theorem ZxR{w0:World}(hcs:∀ x∈ZpL,SA w0 x.1 x.2):SA w0 136 Zk1:=by
 exact Za6 (Zak hcs (Zah _ _) func136 (by kernel_rfl) (by kernel_rfl) (S:=0) (fun w _=>Zae _) (fun _=>rfl) (ZxQ)) fun _ _=>ZvB _
theorem ZxS{w0:World}(G:Gs w0):SA w0 136 Zk1:=
 ZxR (Zag (ZiB G) Zax)
abbrev Zwr:Ag (Unit):=.nil
abbrev Zws:Pt (LI):=(.ints .i64 10)
def Zjz:Ct:=tct Zwr Zws fun x=>Zfo
def Zu2:List (FuncId×Ct):=[]
theorem ZBg:RunIs prog (Zu2) [] 0 [] f122 Zwr Zws (fun x=>some (Zfo)):=by
 intro x;kernel_rfl
theorem ZBh{w0:World}(hcs:∀ x∈Zu2,SA w0 x.1 x.2):SA w0 122 Zjz:=by
 exact Za6 (Zak hcs (Zah _ _) func122 (by kernel_rfl) (by kernel_rfl) (S:=0) (fun w _=>Zae _) (fun _=>rfl) (ZBg)) fun _ _=>rfl
theorem Zsj{w0:World}:SA w0 122 Zjz:=
 ZBh Zax
abbrev Zwt:Ag (Unit):=.nil
abbrev Zwu:Pt (LI):=(.ints .i64 10)
def ZqC:Ct:=tct Zwt Zwu fun x=>ZlY
def Zu3:List (FuncId×Ct):=[]
theorem ZBi:RunIs prog (Zu3) [] 0 [] f129 Zwt Zwu (fun x=>some (ZlY)):=by
 intro x;kernel_rfl
theorem ZBj{w0:World}(hcs:∀ x∈Zu3,SA w0 x.1 x.2):SA w0 129 ZqC:=by
 exact Za6 (Zak hcs (Zah _ _) func129 (by kernel_rfl) (by kernel_rfl) (S:=0) (fun w _=>Zae _) (fun _=>rfl) (ZBi)) fun _ _=>rfl
theorem ZBk{w0:World}:SA w0 129 ZqC:=
 ZBj Zax
abbrev ZsO:Ag (LI):=(.one (.ints .i64 10))
abbrev ZsP:Pt ((LI×Bool)):=(.tup (.cons (.ints .i64 10) (.one .bool)))
def ZlZ(N:Nat):Ct:=fct ZsO ZsP fun x=>ZcJ N x
def Zrx(N:Nat):List (FuncId×Ct):=[(122,Zjz),(123,(Zco N)),(135,(ZjU N)),(136,Zk1)]
theorem Zy4(N:Nat):RunIs prog (Zrx N) ZlS 0 [] f127 ZsO ZsP (fun x=>ZcJ N x):=by
 intro x;kernel_rfl
theorem Zy5{w0:World}(N:Nat)(hcs:∀ x∈Zrx N,SA w0 x.1 x.2)(hg:GO w0 ZlS):SA w0 127 (ZlZ N):=by
 exact Zak hcs hg func127 (by kernel_rfl) (by kernel_rfl) (S:=0) (fun w _=>Zae _) (fun _=>rfl) (Zy4 N)
theorem Zy6{w0:World}(N:Nat)(G:Gs w0):SA w0 127 (ZlZ N):=
 Zy5 N (Zag (Zsj) (Zag (Zef N G) (Zag (ZpK N G) (Zag (ZxS G) Zax)))) G.hg_veilref01_root
abbrev ZmA:Ag ((LI×LI)):=(.cons (.ints .i64 10) (.one (.ints .i64 10)))
abbrev ZmB:Pt ((LI×Bool)):=(.tup (.cons (.ints .i64 10) (.one .bool)))
def ZeE(N:Nat):Ct:=fct ZmA ZmB fun x=>Zbr N x.1 x.2
def ZlD(N:Nat):List (FuncId×Ct):=[(122,Zjz),(123,(Zco N)),(126,(Zfe N)),(127,(ZlZ N))]
theorem ZtA(N:Nat):RunIs prog (ZlD N) ZgW 0 [] f100 ZmA ZmB (fun x=>Zbr N x.1 x.2):=by
 intro x;kernel_rfl
theorem ZtB{w0:World}(N:Nat)(hcs:∀ x∈ZlD N,SA w0 x.1 x.2)(hg:GO w0 ZgW):SA w0 100 (ZeE N):=by
 exact Zak hcs hg func100 (by kernel_rfl) (by kernel_rfl) (S:=0) (fun w _=>Zae _) (fun _=>rfl) (ZtA N)
theorem ZmC{w0:World}(N:Nat)(G:Gs w0):SA w0 100 (ZeE N):=
 ZtB N (Zag (Zsj) (Zag (Zef N G) (Zag (Znn N G) (Zag (Zy6 N G) Zax)))) G.hg_veilref01_SqrtRatio
abbrev Zno:Ag (LI):=(.one (.ints .i64 10))
abbrev Znp:Pt (LI):=(.ints .u8 32)
def Zff(N:Nat):Ct:=fct Zno Znp fun x=>ZaT N x
def Zfg(N:Nat):List (FuncId×Ct):=[]
def Zga:Fm ((Unit×Unit×Unit×Int)) ((LI×Unit×LI)):=⟨(.cons 1 (.lit (.ptr 0 [] 65)) (.cons 2 (.lit (.ptr 1 [] 47)) (.cons 3 (.lit (.ptr 2 [] 47)) (.one 4 (.int .i64))))),(.cons 0 (.ints .i64 10) (.cons 1 (.lit (.ints .u8 32 [0,0,0,0,0,0,0,0,0,0,0,0,0,0,0,0,0,0,0,0,0,0,0,0,0,0,0,0,0,0,0,0])) (.one 2 (.ints .u8 32))))⟩
def Zgb:Fm ((Unit×Unit)) ((Unit×LI)):=⟨(.cons 2 (.lit (.ptr 1 [] 47)) (.one 3 (.lit (.ptr 2 [] 47)))),(.cons 1 (.lit (.ints .u8 32 [0,0,0,0,0,0,0,0,0,0,0,0,0,0,0,0,0,0,0,0,0,0,0,0,0,0,0,0,0,0,0,0])) (.one 2 (.ints .u8 32)))⟩
def Zgc:Fm (Unit) (Unit):=⟨.nil,.nil⟩
def ZhT(N:Nat):List (Nat×Lf):=[(0,loopCt Zga Zgb Zgc 4 (Zbl N) N)]
theorem Zpi(N:Nat):StepIs prog (cxOf f105 (Zfg N) [] 0) (ZhT N) f105 0 4 Zga Zgb Zgc (Zbl N):=by
 intro v;kernel_rfl
theorem ZuC(N:Nat):RunIs prog (Zfg N) [] 0 (ZhT N) f105 Zno Znp (fun x=>ZaT N x):=by
 intro x;kernel_rfl
theorem ZuD{w0:World}(N:Nat)(hcs:∀ x∈Zfg N,SA w0 x.1 x.2):SA w0 105 (Zff N):=by
 have L0:∀ w:Base,w.g=w0→LoopOK prog (cxOf f105 (Zfg N) [] 0) w 0 (.loop (loopBody f105 0)) (loopCt Zga Zgb Zgc 4 (Zbl N) N):=
  Zfb hcs (ls:=ZhT N) (n:=100) (by kernel_rfl) (Zpi N) N fun w hw=>ZaH (lp_no (by kernel_rfl) ZeI)
 exact Zak hcs (Zah _ _) func105 (by kernel_rfl) (by kernel_rfl) (S:=0) (fun w hw=>ZaH (Zmu (L0 w hw) (by kernel_rfl) ZeI)) (fun _=>rfl) (ZuC N)
theorem Znq{w0:World}(N:Nat):SA w0 105 (Zff N):=
 ZuD N Zax
abbrev ZpM:Ag (((Nat×LI)×Unit)):=(.one (.tup (.cons (.lst .u8) (.one (.lit (.clo 5 []))))))
abbrev ZpN:Pt (LI):=(.ints .i64 10)
def ZjV(N:Nat):Ct:=fct ZpM ZpN fun x=>Zcu N x
def Zgd(N:Nat):List (FuncId×Ct):=[(128,(Zfc N))]
def ZhU:Fm ((Nat×Unit×Unit×Int)) (((Nat×LI)×Unit×LI)):=⟨(.cons 0 (.slw 0 5) (.cons 2 (.lit (.ptr 1 [] 65)) (.cons 3 (.lit (.ptr 2 [] 201)) (.one 4 (.int .i64))))),(.cons 0 (.lst .u8) (.cons 1 (.lit (.ints .i64 10 [0,0,0,0,0,0,0,0,0,0])) (.one 2 (.ints .i64 20))))⟩
def ZhV:Fm ((Unit×Unit)) ((Unit×LI)):=⟨(.cons 2 (.lit (.ptr 1 [] 65)) (.one 3 (.lit (.ptr 2 [] 201)))),(.cons 1 (.lit (.ints .i64 10 [0,0,0,0,0,0,0,0,0,0])) (.one 2 (.ints .i64 20)))⟩
def ZhW:Fm (Unit) (Unit):=⟨.nil,.nil⟩
def ZjW(N:Nat):List (Nat×Lf):=[(0,loopCt ZhU ZhV ZhW 4 (Za5 N) N)]
theorem Zry(N:Nat):StepIs prog (cxOf f133 (Zgd N) [] 1) (ZjW N) f133 0 4 ZhU ZhV ZhW (Za5 N):=by
 intro v;kernel_rfl
theorem Zwv(N:Nat):RunIs prog (Zgd N) [] 1 (ZjW N) f133 ZpM ZpN (fun x=>Zcu N x):=by
 intro x;kernel_rfl
theorem Zww{w0:World}(N:Nat)(hcs:∀ x∈Zgd N,SA w0 x.1 x.2):SA w0 133 (ZjV N):=by
 have L0:∀ w:Base,w.g=w0→LoopOK prog (cxOf f133 (Zgd N) [] 1) w 0 (.loop (loopBody f133 0)) (loopCt ZhU ZhV ZhW 4 (Za5 N) N):=
  Zfb hcs (ls:=ZjW N) (n:=100) (by kernel_rfl) (Zry N) N fun w hw=>ZaH (lp_no (by kernel_rfl) ZeI)
 exact Zak hcs (Zah _ _) func133 (by kernel_rfl) (by kernel_rfl) (S:=1) (fun w hw=>ZaH (Zmu (L0 w hw) (by kernel_rfl) ZeI)) (fun _=>rfl) (Zwv N)
theorem Zwx{w0:World}(N:Nat)(G:Gs w0):SA w0 133 (ZjV N):=
 Zww N (Zag (ZlU N G) Zax)
abbrev ZpO:Ag (LI):=(.one (.ints .u8 32))
abbrev ZpP:Pt ((LI×Int)):=(.tup (.cons (.ints .i64 10) (.one (.int .i64))))
def ZjX(N:Nat):Ct:=fct ZpO ZpP fun x=>Zcv N x
def Zoj(N:Nat):List (FuncId×Ct):=[(105,(Zff N)),(133,(ZjV N))]
theorem Zwy(N:Nat):RunIs prog (Zoj N) [] 0 [] f119 ZpO ZpP (fun x=>Zcv N x):=by
 intro x;kernel_rfl
theorem Zwz{w0:World}(N:Nat)(hcs:∀ x∈Zoj N,SA w0 x.1 x.2):SA w0 119 (ZjX N):=by
 exact Zak hcs (Zah _ _) func119 (by kernel_rfl) (by kernel_rfl) (S:=0) (fun w _=>Zae _) (fun _=>rfl) (Zwy N)
theorem ZwA{w0:World}(N:Nat)(G:Gs w0):SA w0 119 (ZjX N):=
 Zwz N (Zag (Znq N) (Zag (Zwx N G) Zax))
abbrev Zok:Ag (Unit):=.nil
abbrev Zol:Pt ((LI×LI)):=(.agg (.cons (.ints .i64 10) (.one (.ints .i64 10))))
def ZdD:Ct:=tct Zok Zol fun x=>Zai
def Znr:List (FuncId×Ct):=[]
theorem ZvC:RunIs prog (Znr) ZiX 0 [] f125 Zok Zol (fun x=>some (Zai)):=by
 intro x;kernel_rfl
theorem ZvD{w0:World}(hcs:∀ x∈Znr,SA w0 x.1 x.2)(hg:GO w0 ZiX):SA w0 125 ZdD:=by
 exact Za6 (Zak hcs hg func125 (by kernel_rfl) (by kernel_rfl) (S:=0) (fun w _=>Zae _) (fun _=>rfl) (ZvC)) fun _ _=>rfl
theorem ZjY{w0:World}(G:Gs w0):SA w0 125 ZdD:=
 ZvD Zax G.hg_veilref04_Neutral
abbrev Zom:Ag (Unit):=.nil
abbrev Zon:Pt ((LI×LI)):=(.agg (.one (.agg (.cons (.ints .i64 10) (.one (.ints .i64 10))))))
def Zi7:Ct:=tct Zom Zon fun x=>Zbz
def Zns:List (FuncId×Ct):=[(125,ZdD)]
theorem ZvE:RunIs prog (Zns) [] 0 [] f121 Zom Zon (fun x=>some (Zbz)):=by
 intro x;kernel_rfl
theorem ZvF{w0:World}(hcs:∀ x∈Zns,SA w0 x.1 x.2):SA w0 121 Zi7:=by
 exact Za6 (Zak hcs (Zah _ _) func121 (by kernel_rfl) (by kernel_rfl) (S:=0) (fun w _=>Zae _) (fun _=>rfl) (ZvE)) fun _ _=>rfl
theorem ZvG{w0:World}(G:Gs w0):SA w0 121 Zi7:=
 ZvF (Zag (ZjY G) Zax)
abbrev Znt:Ag ((LI×LI)):=(.one (.agg (.one (.agg (.cons (.ints .i64 10) (.one (.ints .i64 10)))))))
abbrev Znu:Pt ((LI×LI)):=(.agg (.cons (.ints .i64 10) (.one (.ints .i64 10))))
def Zfh:Ct:=tct Znt Znu fun x=>Zaz x
def ZmD:List (FuncId×Ct):=[(125,ZdD)]
theorem ZuE:RunIs prog (ZmD) [] 0 [] f99 Znt Znu (fun x=>Zi8 x):=by
 intro x;kernel_rfl
theorem ZuF{w0:World}(hcs:∀ x∈ZmD,SA w0 x.1 x.2):SA w0 99 Zfh:=by
 exact Za6 (Zak hcs (Zah _ _) func99 (by kernel_rfl) (by kernel_rfl) (S:=0) (fun w _=>Zae _) (fun _=>rfl) (ZuE)) fun _ _=>Zs0 _
theorem Znv{w0:World}(G:Gs w0):SA w0 99 Zfh:=
 ZuF (Zag (ZjY G) Zax)
abbrev Zrz:Ag ((LI×LI)):=(.one (.agg (.cons (.ints .i64 10) (.one (.ints .i64 10)))))
abbrev ZrA:Pt (((LI×LI)×(LI×LI)×(LI×LI)×(LI×LI))):=(.agg (.cons (.agg (.cons (.ints .i64 10) (.one (.ints .i64 10)))) (.cons (.agg (.cons (.ints .i64 10) (.one (.ints .i64 10)))) (.cons (.agg (.cons (.ints .i64 10) (.one (.ints .i64 10)))) (.one (.agg (.cons (.ints .i64 10) (.one (.ints .i64 10)))))))))
def ZhA(N:Nat):Ct:=fct Zrz ZrA fun x=>Zcq N x
def ZpQ(N:Nat):List (FuncId×Ct):=[(122,Zjz),(123,(Zco N)),(124,Zdc)]
theorem ZxT(N:Nat):RunIs prog (ZpQ N) [] 0 [] f98 Zrz ZrA (fun x=>Zcq N x):=by
 intro x;kernel_rfl
theorem ZxU{w0:World}(N:Nat)(hcs:∀ x∈ZpQ N,SA w0 x.1 x.2):SA w0 98 (ZhA N):=by
 exact Zak hcs (Zah _ _) func98 (by kernel_rfl) (by kernel_rfl) (S:=0) (fun w _=>Zae _) (fun _=>rfl) (ZxT N)
theorem ZrB{w0:World}(N:Nat)(G:Gs w0):SA w0 98 (ZhA N):=
 ZxU N (Zag (Zsj) (Zag (Zef N G) (Zag (ZiB G) Zax)))
abbrev ZlE:Ag (((LI×LI)×(LI×LI))):=(.cons (.agg (.one (.agg (.cons (.ints .i64 10) (.one (.ints .i64 10)))))) (.one (.agg (.one (.agg (.cons (.ints .i64 10) (.one (.ints .i64 10))))))))
abbrev ZlF:Pt (Bool):=.bool
def Zge(N:Nat):Ct:=fct ZlE ZlF fun x=>Zbi N x.1 x.2
def Zk2(N:Nat):List (FuncId×Ct):=[(98,(ZhA N)),(99,Zfh)]
theorem Zs1(N:Nat):RunIs prog (Zk2 N) [] 0 [] f104 ZlE ZlF (fun x=>Zbi N x.1 x.2):=by
 intro x;kernel_rfl
theorem Zs2{w0:World}(N:Nat)(hcs:∀ x∈Zk2 N,SA w0 x.1 x.2):SA w0 104 (Zge N):=by
 exact Zak hcs (Zah _ _) func104 (by kernel_rfl) (by kernel_rfl) (S:=0) (fun w _=>Zae _) (fun _=>rfl) (Zs1 N)
theorem Zs3{w0:World}(N:Nat)(G:Gs w0):SA w0 104 (Zge N):=
 Zs2 N (Zag (ZrB N G) (Zag (Znv G) Zax))
abbrev ZpR:Ag (LI):=(.one (.ints .i64 10))
abbrev ZpS:Pt (((LI×LI)×Bool)):=(.tup (.cons (.agg (.cons (.ints .i64 10) (.one (.ints .i64 10)))) (.one .bool)))
def Zgf(N:Nat):Ct:=fct ZpR ZpS fun x=>ZbA N x
def Zoo(N:Nat):List (FuncId×Ct):=[(100,(ZeE N)),(101,(Zhx N)),(102,(Zfd N)),(120,ZdH),(123,(Zco N)),(124,Zdc),(125,ZdD),(126,(Zfe N)),(129,ZqC)]
theorem ZwB(N:Nat):RunIs prog (Zoo N) ZjP 0 [] f103 ZpR ZpS (fun x=>ZbA N x):=by
 intro x;kernel_rfl
theorem ZwC{w0:World}(N:Nat)(hcs:∀ x∈Zoo N,SA w0 x.1 x.2)(hg:GO w0 ZjP):SA w0 103 (Zgf N):=by
 exact Zak hcs hg func103 (by kernel_rfl) (by kernel_rfl) (S:=0) (fun w _=>Zae _) (fun _=>rfl) (ZwB N)
theorem ZpT{w0:World}(N:Nat)(G:Gs w0):SA w0 103 (Zgf N):=
 ZwC N (Zag (ZmC N G) (Zag (Zrq N G) (Zag (ZlV N G) (Zag (ZlC) (Zag (Zef N G) (Zag (ZiB G) (Zag (ZjY G) (Zag (Znn N G) (Zag (ZBk) Zax))))))))) G.hg_veilref05_stands
abbrev ZpU:Ag (LI):=(.one (.ints .u8 32))
abbrev ZpV:Pt (((LI×LI)×Int)):=(.tup (.cons (.agg (.one (.agg (.cons (.ints .i64 10) (.one (.ints .i64 10)))))) (.one (.int .i64))))
def ZjZ(N:Nat):Ct:=fct ZpU ZpV fun x=>Zbp N x
def Zop(N:Nat):List (FuncId×Ct):=[(103,(Zgf N)),(119,(ZjX N)),(120,ZdH),(121,Zi7)]
theorem ZwD(N:Nat):RunIs prog (Zop N) [] 0 [] f95 ZpU ZpV (fun x=>Zbp N x):=by
 intro x;kernel_rfl
theorem ZwE{w0:World}(N:Nat)(hcs:∀ x∈Zop N,SA w0 x.1 x.2):SA w0 95 (ZjZ N):=by
 exact Zak hcs (Zah _ _) func95 (by kernel_rfl) (by kernel_rfl) (S:=0) (fun w _=>Zae _) (fun _=>rfl) (ZwD N)
theorem ZwF{w0:World}(N:Nat)(G:Gs w0):SA w0 95 (ZjZ N):=
 ZwE N (Zag (ZpT N G) (Zag (ZwA N G) (Zag (ZlC) (Zag (ZvG G) Zax))))
abbrev ZkE:Ag ((LI×LI)):=(.one (.agg (.one (.agg (.cons (.ints .i64 10) (.one (.ints .i64 10)))))))
abbrev ZkF:Pt (LI):=(.ints .u8 32)
def Zfp(N:Nat):Ct:=fct ZkE ZkF fun x=>ZaA N x
def ZjA(N:Nat):List (FuncId×Ct):=[(98,(ZhA N)),(99,Zfh),(100,(ZeE N)),(101,(Zhx N)),(102,(Zfd N)),(103,(Zgf N)),(104,(Zge N)),(105,(Zff N))]
theorem ZrC(N:Nat):RunIs prog (ZjA N) Zfn 0 [] f74 ZkE ZkF (fun x=>ZaA N x):=by
 intro x;kernel_rfl
theorem ZrD{w0:World}(N:Nat)(hcs:∀ x∈ZjA N,SA w0 x.1 x.2)(hg:GO w0 Zfn):SA w0 74 (Zfp N):=by
 exact Zak hcs hg func74 (by kernel_rfl) (by kernel_rfl) (S:=0) (fun w _=>Zae _) (fun _=>rfl) (ZrC N)
theorem ZrE{w0:World}(N:Nat)(G:Gs w0):SA w0 74 (Zfp N):=
 ZrD N (Zag (ZrB N G) (Zag (Znv G) (Zag (ZmC N G) (Zag (Zrq N G) (Zag (ZlV N G) (Zag (ZpT N G) (Zag (Zs3 N G) (Zag (Znq N) Zax)))))))) G.hg_veilref05_Point_Encode
abbrev Zu4:Ag ((LI×LI)):=(.cons (.ints .u64 4) (.one (.ints .u64 4)))
abbrev Zu5:Pt ((LI×Int)):=(.tup (.cons (.ints .u64 4) (.one (.int .u64))))
def Zk3:Ct:=fct Zu4 Zu5 fun x=>ZkG x.1 x.2
def ZtC:List (FuncId×Ct):=[(132,Zwa)]
theorem ZAD:RunIs prog (ZtC) [] 0 [] f110 Zu4 Zu5 (fun x=>ZkG x.1 x.2):=by
 intro x;kernel_rfl
theorem ZAE{w0:World}(hcs:∀ x∈ZtC,SA w0 x.1 x.2):SA w0 110 Zk3:=by
 exact Zak hcs (Zah _ _) func110 (by kernel_rfl) (by kernel_rfl) (S:=0) (fun w _=>Zae _) (fun _=>rfl) (ZAD)
theorem Zu6{w0:World}:SA w0 110 Zk3:=
 ZAE (Zag (ZCb) Zax)
abbrev ZwG:Ag ((LI×LI)):=(.cons (.ints .u64 4) (.one (.ints .u64 4)))
abbrev ZwH:Pt ((LI×Int)):=(.tup (.cons (.ints .u64 4) (.one (.int .u64))))
def ZqD:Ct:=fct ZwG ZwH fun x=>Zoq x.1 x.2
def Zu7:List (FuncId×Ct):=[(109,ZnL)]
theorem ZBl:RunIs prog (Zu7) [] 0 [] f111 ZwG ZwH (fun x=>Zoq x.1 x.2):=by
 intro x;kernel_rfl
theorem ZBm{w0:World}(hcs:∀ x∈Zu7,SA w0 x.1 x.2):SA w0 111 ZqD:=by
 exact Zak hcs (Zah _ _) func111 (by kernel_rfl) (by kernel_rfl) (S:=0) (fun w _=>Zae _) (fun _=>rfl) (ZBl)
theorem ZBn{w0:World}:SA w0 111 ZqD:=
 ZBm (Zag (Ztj) Zax)
abbrev ZtD:Ag ((Int×LI×LI)):=(.cons (.int .u64) (.cons (.ints .u64 4) (.one (.ints .u64 4))))
abbrev ZtE:Pt (LI):=(.ints .u64 4)
def ZjM:Ct:=tct ZtD ZtE fun x=>Zfi x.1 x.2.1 x.2.2
def ZsQ:List (FuncId×Ct):=[]
theorem Zzu:RunIs prog (ZsQ) [] 0 [] f113 ZtD ZtE (fun x=>some (Zfi x.1 x.2.1 x.2.2)):=by
 intro x;kernel_rfl
theorem Zzv{w0:World}(hcs:∀ x∈ZsQ,SA w0 x.1 x.2):SA w0 113 ZjM:=by
 exact Za6 (Zak hcs (Zah _ _) func113 (by kernel_rfl) (by kernel_rfl) (S:=0) (fun w _=>Zae _) (fun _=>rfl) (Zzu)) fun _ _=>rfl
theorem ZtF{w0:World}:SA w0 113 ZjM:=
 Zzv Zax
abbrev Zu8:Ag (LI):=(.one (.ints .u64 4))
abbrev Zu9:Pt (LI):=(.ints .u64 4)
def Zor:Ct:=fct Zu8 Zu9 fun x=>ZmE x
def ZtG:List (FuncId×Ct):=[(110,Zk3),(113,ZjM)]
theorem ZAF:RunIs prog (ZtG) Zn0 0 [] f112 Zu8 Zu9 (fun x=>ZmE x):=by
 intro x;kernel_rfl
theorem ZAG{w0:World}(hcs:∀ x∈ZtG,SA w0 x.1 x.2)(hg:GO w0 Zn0):SA w0 112 Zor:=by
 exact Zak hcs hg func112 (by kernel_rfl) (by kernel_rfl) (S:=0) (fun w _=>Zae _) (fun _=>rfl) (ZAF)
theorem ZAH{w0:World}(G:Gs w0):SA w0 112 Zor:=
 ZAG (Zag (Zu6) (Zag (ZtF) Zax)) G.hg_scalar_lower
abbrev ZmF:Ag (LI):=(.one (.ints .u64 4))
abbrev ZmG:Pt (LI):=(.ints .u64 4)
def Zg8:Ct:=fct ZmF ZmG fun x=>ZcZ x
def ZlG:List (FuncId×Ct):=[(108,ZnM),(109,ZnL),(110,Zk3),(111,ZqD),(112,Zor),(113,ZjM)]
theorem ZtH:RunIs prog (ZlG) ZgX 0 [] f82 ZmF ZmG (fun x=>ZcZ x):=by
 intro x;kernel_rfl
theorem ZtI{w0:World}(hcs:∀ x∈ZlG,SA w0 x.1 x.2)(hg:GO w0 ZgX):SA w0 82 Zg8:=by
 exact Zak hcs hg func82 (by kernel_rfl) (by kernel_rfl) (S:=0) (fun w _=>Zae _) (fun _=>rfl) (ZtH)
theorem ZtJ{w0:World}(G:Gs w0):SA w0 82 Zg8:=
 ZtI (Zag (ZyA) (Zag (Ztj) (Zag (Zu6) (Zag (ZBn) (Zag (ZAH G) (Zag (ZtF) Zax)))))) G.hg_scalar_Scalar_Least
abbrev ZwI:Ag (Unit):=.nil
abbrev ZwJ:Pt (LI):=(.ints .u64 4)
def ZqE:Ct:=tct ZwI ZwJ fun x=>ZhX
def Zva:List (FuncId×Ct):=[]
theorem ZBo:RunIs prog (Zva) [] 0 [] f86 ZwI ZwJ (fun x=>some (ZhX)):=by
 intro x;kernel_rfl
theorem ZBp{w0:World}(hcs:∀ x∈Zva,SA w0 x.1 x.2):SA w0 86 ZqE:=by
 exact Za6 (Zak hcs (Zah _ _) func86 (by kernel_rfl) (by kernel_rfl) (S:=0) (fun w _=>Zae _) (fun _=>rfl) (ZBo)) fun _ _=>rfl
theorem ZBq{w0:World}:SA w0 86 ZqE:=
 ZBp Zax
abbrev ZrF:Ag ((LI×LI)):=(.cons (.ints .u64 4) (.one (.ints .u64 4)))
abbrev ZrG:Pt (Bool):=.bool
def Zk4:Ct:=tct ZrF ZrG fun x=>ZcO x.1 x.2
def ZpW:List (FuncId×Ct):=[]
theorem ZxV:RunIs prog (ZpW) [] 0 [] f85 ZrF ZrG (fun x=>Zl0 x.1 x.2):=by
 intro x;kernel_rfl
theorem ZxW{w0:World}(hcs:∀ x∈ZpW,SA w0 x.1 x.2):SA w0 85 Zk4:=by
 exact Za6 (Zak hcs (Zah _ _) func85 (by kernel_rfl) (by kernel_rfl) (S:=0) (fun w _=>Zae _) (fun _=>rfl) (ZxV)) fun _ _=>ZvH _ _
theorem ZxX{w0:World}:SA w0 85 Zk4:=
 ZxW Zax
abbrev ZjB:Ag (LI):=(.one (.ints .u64 4))
abbrev ZjC:Pt (LI):=(.ints .u8 32)
def ZeJ(N:Nat):Ct:=fct ZjB ZjC fun x=>Zgg N x
def ZcT(N:Nat):List (FuncId×Ct):=[]
def ZdI:Fm ((Unit×Unit×Unit×Int)) ((LI×Unit×LI)):=⟨(.cons 1 (.lit (.ptr 0 [] 70)) (.cons 2 (.lit (.ptr 1 [] 47)) (.cons 3 (.lit (.ptr 2 [] 47)) (.one 4 (.int .i64))))),(.cons 0 (.ints .u64 4) (.cons 1 (.lit (.ints .u8 32 [0,0,0,0,0,0,0,0,0,0,0,0,0,0,0,0,0,0,0,0,0,0,0,0,0,0,0,0,0,0,0,0])) (.one 2 (.ints .u8 32))))⟩
def ZdJ:Fm ((Unit×Unit)) ((Unit×LI)):=⟨(.cons 2 (.lit (.ptr 1 [] 47)) (.one 3 (.lit (.ptr 2 [] 47)))),(.cons 1 (.lit (.ints .u8 32 [0,0,0,0,0,0,0,0,0,0,0,0,0,0,0,0,0,0,0,0,0,0,0,0,0,0,0,0,0,0,0,0])) (.one 2 (.ints .u8 32)))⟩
def ZdK:Fm (Unit) (Unit):=⟨.nil,.nil⟩
def ZeK(N:Nat):List (Nat×Lf):=[(0,loopCt ZdI ZdJ ZdK 4 (ZcU N) N)]
theorem Zl1(N:Nat):StepIs prog (cxOf f54 (ZcT N) [] 0) (ZeK N) f54 0 4 ZdI ZdJ ZdK (ZcU N):=by
 intro v;kernel_rfl
theorem ZqF(N:Nat):RunIs prog (ZcT N) [] 0 (ZeK N) f54 ZjB ZjC (fun x=>Zgg N x):=by
 intro x;kernel_rfl
theorem ZqG{w0:World}(N:Nat)(hcs:∀ x∈ZcT N,SA w0 x.1 x.2):SA w0 54 (ZeJ N):=by
 have L0:∀ w:Base,w.g=w0→LoopOK prog (cxOf f54 (ZcT N) [] 0) w 0 (.loop (loopBody f54 0)) (loopCt ZdI ZdJ ZdK 4 (ZcU N) N):=
  Zfb hcs (ls:=ZeK N) (n:=100) (by kernel_rfl) (Zl1 N) N fun w hw=>ZaH (lp_no (by kernel_rfl) ZeI)
 exact Zak hcs (Zah _ _) func54 (by kernel_rfl) (by kernel_rfl) (S:=0) (fun w hw=>ZaH (Zmu (L0 w hw) (by kernel_rfl) ZeI)) (fun _=>rfl) (ZqF N)
theorem ZqH{w0:World}(N:Nat):SA w0 54 (ZeJ N):=
 ZqG N Zax
abbrev ZpX:Ag (LI):=(.one (.ints .u8 32))
abbrev ZpY:Pt (LI):=(.ints .u64 4)
def Zj0(N:Nat):Ct:=fct ZpX ZpY fun x=>ZgF N x
def Zgh(N:Nat):List (FuncId×Ct):=[]
def ZhY:Fm ((Unit×Unit×LI×Int)) ((Unit×LI)):=⟨(.cons 2 (.lit (.ptr 1 [] 50)) (.cons 3 (.lit (.ptr 2 [] 50)) (.cons 6 (.ints .u8 32) (.one 7 (.int .i64))))),(.cons 1 (.lit (.ints .u64 4 [0,0,0,0])) (.one 2 (.ints .u64 4)))⟩
def ZhZ:Fm ((Unit×Unit)) ((Unit×LI)):=⟨(.cons 2 (.lit (.ptr 1 [] 50)) (.one 3 (.lit (.ptr 2 [] 50)))),(.cons 1 (.lit (.ints .u64 4 [0,0,0,0])) (.one 2 (.ints .u64 4)))⟩
def Zh0:Fm (Unit) (Unit):=⟨.nil,.nil⟩
def Zj1(N:Nat):List (Nat×Lf):=[(0,loopCt ZhY ZhZ Zh0 5 (Zei N) N)]
theorem ZrH(N:Nat):StepIs prog (cxOf f81 (Zgh N) [] 0) (Zj1 N) f81 0 5 ZhY ZhZ Zh0 (Zei N):=by
 intro v;kernel_rfl
theorem ZwK(N:Nat):RunIs prog (Zgh N) [] 0 (Zj1 N) f81 ZpX ZpY (fun x=>ZgF N x):=by
 intro x;kernel_rfl
theorem ZwL{w0:World}(N:Nat)(hcs:∀ x∈Zgh N,SA w0 x.1 x.2):SA w0 81 (Zj0 N):=by
 have L0:∀ w:Base,w.g=w0→LoopOK prog (cxOf f81 (Zgh N) [] 0) w 0 (.loop (loopBody f81 0)) (loopCt ZhY ZhZ Zh0 5 (Zei N) N):=
  Zfb hcs (ls:=Zj1 N) (n:=100) (by kernel_rfl) (ZrH N) N fun w hw=>ZaH (lp_no (by kernel_rfl) ZeI)
 exact Zak hcs (Zah _ _) func81 (by kernel_rfl) (by kernel_rfl) (S:=0) (fun w hw=>ZaH (Zmu (L0 w hw) (by kernel_rfl) ZeI)) (fun _=>rfl) (ZwK N)
theorem ZwM{w0:World}(N:Nat):SA w0 81 (Zj0 N):=
 ZwL N Zax
abbrev ZtK:Ag (LI):=(.one (.ints .u8 32))
abbrev ZtL:Pt ((LI×Int)):=(.tup (.cons (.ints .u64 4) (.one (.int .i64))))
def ZjN(N:Nat):Ct:=fct ZtK ZtL fun x=>Zgi N x
def ZsR(N:Nat):List (FuncId×Ct):=[(81,(Zj0 N)),(82,Zg8)]
theorem Zzw(N:Nat):RunIs prog (ZsR N) [] 0 [] f51 ZtK ZtL (fun x=>Zgi N x):=by
 intro x;kernel_rfl
theorem Zzx{w0:World}(N:Nat)(hcs:∀ x∈ZsR N,SA w0 x.1 x.2):SA w0 51 (ZjN N):=by
 exact Zak hcs (Zah _ _) func51 (by kernel_rfl) (by kernel_rfl) (S:=0) (fun w _=>Zae _) (fun _=>rfl) (Zzw N)
theorem ZtM{w0:World}(N:Nat)(G:Gs w0):SA w0 51 (ZjN N):=
 Zzx N (Zag (ZwM N) (Zag (ZtJ G) Zax))
abbrev ZrI:Ag (LI):=(.one (.ints .u8 32))
abbrev ZrJ:Pt (LI):=(.ints .u64 4)
def Zk5(N:Nat):Ct:=fct ZrI ZrJ fun x=>Zh1 N x
def ZhB(N:Nat):List (FuncId×Ct):=[]
def Zi9:Fm ((Unit×Unit×Unit×Int)) ((LI×Unit×LI)):=⟨(.cons 1 (.lit (.ptr 0 [] 47)) (.cons 2 (.lit (.ptr 1 [] 70)) (.cons 3 (.lit (.ptr 2 [] 70)) (.one 4 (.int .i64))))),(.cons 0 (.ints .u8 32) (.cons 1 (.lit (.ints .u64 4 [0,0,0,0])) (.one 2 (.ints .u64 4))))⟩
def Zja:Fm ((Unit×Unit)) ((Unit×LI)):=⟨(.cons 2 (.lit (.ptr 1 [] 70)) (.one 3 (.lit (.ptr 2 [] 70)))),(.cons 1 (.lit (.ints .u64 4 [0,0,0,0])) (.one 2 (.ints .u64 4)))⟩
def Zjb:Fm (Unit) (Unit):=⟨.nil,.nil⟩
def Zk6(N:Nat):List (Nat×Lf):=[(0,loopCt Zi9 Zja Zjb 4 (Zfj N) N)]
theorem Zsk(N:Nat):StepIs prog (cxOf f84 (ZhB N) [] 0) (Zk6 N) f84 0 4 Zi9 Zja Zjb (Zfj N):=by
 intro v;kernel_rfl
theorem ZxY(N:Nat):RunIs prog (ZhB N) [] 0 (Zk6 N) f84 ZrI ZrJ (fun x=>Zh1 N x):=by
 intro x;kernel_rfl
theorem ZxZ{w0:World}(N:Nat)(hcs:∀ x∈ZhB N,SA w0 x.1 x.2):SA w0 84 (Zk5 N):=by
 have L0:∀ w:Base,w.g=w0→LoopOK prog (cxOf f84 (ZhB N) [] 0) w 0 (.loop (loopBody f84 0)) (loopCt Zi9 Zja Zjb 4 (Zfj N) N):=
  Zfb hcs (ls:=Zk6 N) (n:=100) (by kernel_rfl) (Zsk N) N fun w hw=>ZaH (lp_no (by kernel_rfl) ZeI)
 exact Zak hcs (Zah _ _) func84 (by kernel_rfl) (by kernel_rfl) (S:=0) (fun w hw=>ZaH (Zmu (L0 w hw) (by kernel_rfl) ZeI)) (fun _=>rfl) (ZxY N)
theorem Zx0{w0:World}(N:Nat):SA w0 84 (Zk5 N):=
 ZxZ N Zax
abbrev ZpZ:Ag (LI):=(.one (.ints .u8 32))
abbrev Zp0:Pt ((LI×Int)):=(.tup (.cons (.ints .u64 4) (.one (.int .i64))))
def Zgj(N:Nat):Ct:=fct ZpZ Zp0 fun x=>Zdk N x
def Zos(N:Nat):List (FuncId×Ct):=[(84,(Zk5 N)),(85,Zk4),(86,ZqE)]
theorem ZwN(N:Nat):RunIs prog (Zos N) [] 0 [] f57 ZpZ Zp0 (fun x=>Zdk N x):=by
 intro x;kernel_rfl
theorem ZwO{w0:World}(N:Nat)(hcs:∀ x∈Zos N,SA w0 x.1 x.2):SA w0 57 (Zgj N):=by
 exact Zak hcs (Zah _ _) func57 (by kernel_rfl) (by kernel_rfl) (S:=0) (fun w _=>Zae _) (fun _=>rfl) (ZwN N)
theorem Zp1{w0:World}(N:Nat):SA w0 57 (Zgj N):=
 ZwO N (Zag (Zx0 N) (Zag (ZxX) (Zag (ZBq) Zax)))
abbrev Zp2:Ag (LI):=(.one (.ints .u64 4))
abbrev Zp3:Pt ((Int×(LI×LI)×LI×Unit)):=(.agg (.cons (.int .i64) (.cons (.agg (.one (.agg (.cons (.ints .i64 10) (.one (.ints .i64 10)))))) (.cons (.ints .u64 4) (.one (.lit .nils))))))
def Zj2:Ct:=tct Zp2 Zp3 fun x=>Zdl x
def Zot:List (FuncId×Ct):=[]
theorem ZwP:RunIs prog (Zot) [] 0 [] f97 Zp2 Zp3 (fun x=>some (Zdl x)):=by
 intro x;kernel_rfl
theorem ZwQ{w0:World}(hcs:∀ x∈Zot,SA w0 x.1 x.2):SA w0 97 Zj2:=by
 exact Za6 (Zak hcs (Zah _ _) func97 (by kernel_rfl) (by kernel_rfl) (S:=0) (fun w _=>Zae _) (fun _=>rfl) (ZwP)) fun _ _=>rfl
theorem ZwR{w0:World}:SA w0 97 Zj2:=
 ZwQ Zax
abbrev Zvb:Ag ((LI×LI)):=(.one (.agg (.one (.agg (.cons (.ints .i64 10) (.one (.ints .i64 10)))))))
abbrev Zvc:Pt ((Int×(LI×LI)×LI×Unit)):=(.agg (.cons (.int .i64) (.cons (.agg (.one (.agg (.cons (.ints .i64 10) (.one (.ints .i64 10)))))) (.cons (.ints .u64 4) (.one (.lit .nils))))))
def Zou:Ct:=tct Zvb Zvc fun x=>Zh2 x
def ZtN:List (FuncId×Ct):=[]
theorem ZAI:RunIs prog (ZtN) [] 0 [] f96 Zvb Zvc (fun x=>some (Zh2 x)):=by
 intro x;kernel_rfl
theorem ZAJ{w0:World}(hcs:∀ x∈ZtN,SA w0 x.1 x.2):SA w0 96 Zou:=by
 exact Za6 (Zak hcs (Zah _ _) func96 (by kernel_rfl) (by kernel_rfl) (S:=0) (fun w _=>Zae _) (fun _=>rfl) (ZAI)) fun _ _=>rfl
theorem ZAK{w0:World}:SA w0 96 Zou:=
 ZAJ Zax
abbrev Zov:Ag (Int):=(.one (.int .i64))
abbrev Zow:Pt ((Int×(LI×LI)×LI×Unit)):=(.agg (.cons (.int .i64) (.cons (.agg (.one (.agg (.cons (.ints .i64 10) (.one (.ints .i64 10)))))) (.cons (.ints .u64 4) (.one (.lit .nils))))))
def ZfG:Ct:=tct Zov Zow fun x=>Zar x
def Znw:List (FuncId×Ct):=[]
theorem ZvI:RunIs prog (Znw) [] 0 [] f72 Zov Zow (fun x=>some (Zar x)):=by
 intro x;kernel_rfl
theorem ZvJ{w0:World}(hcs:∀ x∈Znw,SA w0 x.1 x.2):SA w0 72 ZfG:=by
 exact Za6 (Zak hcs (Zah _ _) func72 (by kernel_rfl) (by kernel_rfl) (S:=0) (fun w _=>Zae _) (fun _=>rfl) (ZvI)) fun _ _=>rfl
theorem Zox{w0:World}:SA w0 72 ZfG:=
 ZvJ Zax
abbrev Zp4:Ag ((Int×LI)):=(.cons (.int .i64) (.one (.ints .u8 32)))
abbrev Zp5:Pt (((Int×(LI×LI)×LI×Unit)×Int)):=(.tup (.cons (.agg (.cons (.int .i64) (.cons (.agg (.one (.agg (.cons (.ints .i64 10) (.one (.ints .i64 10)))))) (.cons (.ints .u64 4) (.one (.lit .nils)))))) (.one (.int .i64))))
def Zj3(N:Nat):Ct:=fct Zp4 Zp5 fun x=>ZcS N x.1 x.2
def Zoy(N:Nat):List (FuncId×Ct):=[(57,(Zgj N)),(72,ZfG),(95,(ZjZ N)),(96,Zou),(97,Zj2)]
theorem ZwS(N:Nat):RunIs prog (Zoy N) [] 0 [] f73 Zp4 Zp5 (fun x=>ZcS N x.1 x.2):=by
 intro x;kernel_rfl
theorem ZwT{w0:World}(N:Nat)(hcs:∀ x∈Zoy N,SA w0 x.1 x.2):SA w0 73 (Zj3 N):=by
 exact Zak hcs (Zah _ _) func73 (by kernel_rfl) (by kernel_rfl) (S:=0) (fun w _=>Zae _) (fun _=>rfl) (ZwS N)
theorem ZwU{w0:World}(N:Nat)(G:Gs w0):SA w0 73 (Zj3 N):=
 ZwT N (Zag (Zp1 N) (Zag (Zox) (Zag (ZwF N G) (Zag (ZAK) (Zag (ZwR) Zax)))))
abbrev Zoz:Ag (((Nat×LI)×Unit)):=(.one (.tup (.cons (.lst .u8) (.one (.lit (.clo 5 []))))))
abbrev Zej:Pt (((Nat×LI)×Unit)):=(.tup (.cons (.lst .u8) (.one (.lit (.clo 5 [])))))
def ZdL:Ct:=fct Zoz Zej fun x=>Za7 x
theorem ZnN:run prog (fun _=>none) (glAt [] 0) 1 [] (fun _=>none) 100 f34 [.nils] none Zej.get=Za7 ((0,[]),()):=by
 kernel_rfl
theorem ZnO:∀ m l,run prog (fun _=>none) (glAt [] 0) 1 [(0,.ints .u8 m l)] (fun _=>none) 100 f34 [.gp 0 0 m 5 true 0] none Zej.get=Za7 ((m,l),()):=by
 intro m l;kernel_rfl
theorem Zh3{w0:World}:SA w0 34 ZdL:=
 fn_nil (n:=100) func34 (by kernel_rfl) (by kernel_rfl) ZnN ZnO
def Zj4:Ag (Unit):=(.one (.lit (.ptr 32 [] 42)))
def Zj5:Ent (((Bool×(Nat×Nat×Nat)×Int)×(Nat×LI))):=(.cons 32 (.agg (.cons .bool (.cons (.gpw 33 5) (.one (.int .i64))))) (.one 33 (.lst .u8)))
def Zj6:Ent (Unit):=.nil
def Zj7:Pt (Bool):=.bool
def Zj8:Ent (Unit):=.nil
abbrev Zj9(c:Nat):Inl:=Inl.ct prog c 64 88 Zj4 Zj5 Zj6 Zj7 Zj8 [32,33] (fun x=>Ze6 x.1 x.2.1 x.2.2)
abbrev ZdE(w0:World):Prop:=SoundIo prog w0 46 64 88 Zj4 Zj5 Zj6 Zj7 Zj8 [32,33] (fun x=>Ze6 x.1 x.2.1 x.2.2)
def ZoA:List (FuncId×Ct):=[]
abbrev ZoB:List (FuncId×Inl):=[]
theorem ZwV:IoRunIs prog (ZoA) [] 64 (ZoB) [] f46 88 Zj4 Zj5 Zj6 Zj7 Zj8 [32,33] (fun x=>Ze6 x.1 x.2.1 x.2.2):=by
 intro x;kernel_rfl
theorem ZwW{w0:World}(hcs:∀ x∈ZoA,SA w0 x.1 x.2):ZdE w0:=by
 have ik:AllOK prog w0 [] 64 (ZoB):=Za0
 exact ZaI hcs (Zah _ _) ik func46 (by kernel_rfl) (by kernel_rfl) (fun w _ _=>Zae _) (by kernel_rfl) (ZwV)
theorem Zk7{w0:World}:ZdE w0:=
 ZwW Zax
def Zg9:Ag (Unit):=(.one (.lit (.ptr 32 [] 42)))
def Zha:Ent (((Bool×(Nat×Nat×Nat)×Int)×(Nat×LI))):=(.cons 32 (.agg (.cons .bool (.cons (.gpw 33 5) (.one (.int .i64))))) (.one 33 (.lst .u8)))
def Zhb:Ent (Unit):=.nil
def Zhc:Pt (Bool):=.bool
def Zhd:Ent (Unit):=.nil
abbrev ZaP(c:Nat):Inl:=Inl.ct prog c 64 88 Zg9 Zha Zhb Zhc Zhd [32,33] (fun x=>ZaK x.1 x.2.1 x.2.2)
abbrev ZaE(w0:World):Prop:=SoundIo prog w0 47 64 88 Zg9 Zha Zhb Zhc Zhd [32,33] (fun x=>ZaK x.1 x.2.1 x.2.2)
def ZlH:List (FuncId×Ct):=[]
abbrev Zk8:List (FuncId×Inl):=((46,(Zj9 64))::[])
abbrev Zs4:List (FuncId×Inl):=(Zk8)
theorem ZtO:IoRunIs prog (ZlH) [] 64 (Zs4) [] f47 88 Zg9 Zha Zhb Zhc Zhd [32,33] (fun x=>ZaK x.1 x.2.1 x.2.2):=by
 intro x;kernel_rfl
theorem ZtP{w0:World}(hcs:∀ x∈ZlH,SA w0 x.1 x.2)(hf46:ZdE w0):ZaE w0:=by
 have i0:AllOK prog w0 [] 64 (Zk8):=Zaf (ZaL hf46 (by kernel_rfl) rfl) Za0
 exact ZaI hcs (Zah _ _) i0 func47 (by kernel_rfl) (by kernel_rfl) (fun w _ _=>Zae _) (by kernel_rfl) (ZtO)
theorem Za1{w0:World}:ZaE w0:=
 ZtP Zax (Zk7)
def Zh4:Ag ((Unit×Int)):=(.cons (.lit (.ptr 64 [] 42)) (.one (.int .i64)))
def Zh5:Ent ((Nat×LI)):=(.one 32 (.lst .u8))
def Zh6:Ent ((Bool×(Nat×Nat×Nat)×Int)):=(.one 64 (.agg (.cons .bool (.cons (.gpw 32 5) (.one (.int .i64))))))
def Zh7:Pt (Unit):=(.tup .nil)
def Zh8:Ent ((Bool×(Nat×Nat×Nat)×Int)):=(.one 64 (.agg (.cons .bool (.cons (.gpw 32 5) (.one (.int .i64))))))
abbrev ZaO(c:Nat):Inl:=Inl.ct prog c 64 89 Zh4 Zh5 Zh6 Zh7 Zh8 [32,64] (fun x=>Zav x.1 x.2.1 x.2.2)
abbrev ZaD(w0:World):Prop:=SoundIo prog w0 23 64 89 Zh4 Zh5 Zh6 Zh7 Zh8 [32,64] (fun x=>Zav x.1 x.2.1 x.2.2)
def ZmH:List (FuncId×Ct):=[]
abbrev ZlI:List (FuncId×Inl):=((47,(ZaP 64))::[])
abbrev ZtQ:List (FuncId×Inl):=(ZlI)
theorem ZuG:IoRunIs prog (ZmH) [] 64 (ZtQ) [] f23 89 Zh4 Zh5 Zh6 Zh7 Zh8 [32,64] (fun x=>Zav x.1 x.2.1 x.2.2):=by
 intro x;kernel_rfl
theorem ZuH{w0:World}(hcs:∀ x∈ZmH,SA w0 x.1 x.2)(hf47:ZaE w0):ZaD w0:=by
 have i0:AllOK prog w0 [] 64 (ZlI):=Zaf (ZaL hf47 (by kernel_rfl) rfl) Za0
 exact ZaI hcs (Zah _ _) i0 func23 (by kernel_rfl) (by kernel_rfl) (fun w _ _=>Zae _) (by kernel_rfl) (ZuG)
theorem ZaX{w0:World}:ZaD w0:=
 ZuH Zax (Za1)
def ZfL:Ag (Unit):=(.one (.lit (.ptr 64 [] 42)))
def ZfM:Ent ((Nat×LI)):=(.one 32 (.lst .u8))
def ZfN:Ent ((Bool×(Nat×Nat×Nat)×Int)):=(.one 64 (.agg (.cons .bool (.cons (.gpw 32 5) (.one (.int .i64))))))
def ZfO:Pt (LI):=(.ints .u8 32)
def ZfP:Ent ((Bool×(Nat×Nat×Nat)×Int)):=(.one 64 (.agg (.cons .bool (.cons (.gpw 32 5) (.one (.int .i64))))))
abbrev ZcB(c:Nat):Inl:=Inl.ct prog c 64 89 ZfL ZfM ZfN ZfO ZfP [32,64] (fun x=>Za2 x.1 x.2.1 x.2.2)
abbrev ZbD(w0:World):Prop:=SoundIo prog w0 21 64 89 ZfL ZfM ZfN ZfO ZfP [32,64] (fun x=>Za2 x.1 x.2.1 x.2.2)
def ZkH:List (FuncId×Ct):=[]
abbrev ZjD:List (FuncId×Inl):=((47,(ZaP 64))::[])
abbrev ZjE:List (FuncId×Inl):=((23,(ZaO 64))::(ZjD))
abbrev ZrK:List (FuncId×Inl):=(ZjE)
theorem Zsl:IoRunIs prog (ZkH) [] 64 (ZrK) [] f21 89 ZfL ZfM ZfN ZfO ZfP [32,64] (fun x=>Za2 x.1 x.2.1 x.2.2):=by
 intro x;kernel_rfl
theorem Zsm{w0:World}(hcs:∀ x∈ZkH,SA w0 x.1 x.2)(hf47:ZaE w0)(hf23:ZaD w0):ZbD w0:=by
 have i0:AllOK prog w0 [] 64 (ZjD):=Zaf (ZaL hf47 (by kernel_rfl) rfl) Za0
 have i1:AllOK prog w0 [] 64 (ZjE):=Zaf (ZaL hf23 (by kernel_rfl) rfl) i0
 exact ZaI hcs (Zah _ _) i1 func21 (by kernel_rfl) (by kernel_rfl) (fun w _ _=>Zae _) (by kernel_rfl) (Zsl)
theorem ZcP{w0:World}:ZbD w0:=
 Zsm Zax (Za1) (ZaX)
def Zhe:Ag (Unit):=(.one (.lit (.ptr 64 [] 42)))
def Zhf:Ent ((Nat×LI)):=(.one 32 (.lst .u8))
def Zhg:Ent ((Bool×(Nat×Nat×Nat)×Int)):=(.one 64 (.agg (.cons .bool (.cons (.gpw 32 5) (.one (.int .i64))))))
def Zhh:Pt (Int):=(.int .u64)
def Zhi:Ent ((Bool×(Nat×Nat×Nat)×Int)):=(.one 64 (.agg (.cons .bool (.cons (.gpw 32 5) (.one (.int .i64))))))
abbrev ZeF(c:Nat):Inl:=Inl.ct prog c 64 89 Zhe Zhf Zhg Zhh Zhi [32,64] (fun x=>ZbS x.1 x.2.1 x.2.2)
abbrev Zcf(w0:World):Prop:=SoundIo prog w0 48 64 89 Zhe Zhf Zhg Zhh Zhi [32,64] (fun x=>ZbS x.1 x.2.1 x.2.2)
def ZlJ:List (FuncId×Ct):=[]
abbrev Zk9:List (FuncId×Inl):=((23,(ZaO 64))::[])
abbrev Zs5:List (FuncId×Inl):=(Zk9)
theorem ZtR:IoRunIs prog (ZlJ) [] 64 (Zs5) [] f48 89 Zhe Zhf Zhg Zhh Zhi [32,64] (fun x=>ZbS x.1 x.2.1 x.2.2):=by
 intro x;kernel_rfl
theorem ZtS{w0:World}(hcs:∀ x∈ZlJ,SA w0 x.1 x.2)(hf23:ZaD w0):Zcf w0:=by
 have i0:AllOK prog w0 [] 64 (Zk9):=Zaf (ZaL hf23 (by kernel_rfl) rfl) Za0
 exact ZaI hcs (Zah _ _) i0 func48 (by kernel_rfl) (by kernel_rfl) (fun w _ _=>Zae _) (by kernel_rfl) (ZtR)
theorem Zfk{w0:World}:Zcf w0:=
 ZtS Zax (ZaX)
def Zgk:Ag ((Unit×Int)):=(.cons (.lit (.ptr 64 [] 42)) (.one (.int .u64)))
def Zgl:Ent ((Nat×LI)):=(.one 32 (.lst .u8))
def Zgm:Ent ((Bool×(Nat×Nat×Nat)×Int)):=(.one 64 (.agg (.cons .bool (.cons (.gpw 32 5) (.one (.int .i64))))))
def Zgn:Pt (Int):=(.int .u64)
def Zgo:Ent ((Bool×(Nat×Nat×Nat)×Int)):=(.one 64 (.agg (.cons .bool (.cons (.gpw 32 5) (.one (.int .i64))))))
abbrev ZfQ(w0:World):Prop:=SoundIo prog w0 20 64 89 Zgk Zgl Zgm Zgn Zgo [32,64] (fun x=>ZbK x.1 x.2.1 x.2.2)
def Zgp:List (FuncId×Ct):=[]
abbrev ZkI:List (FuncId×Inl):=((47,(ZaP 64))::[])
abbrev ZkJ:List (FuncId×Inl):=((48,(ZeF 64))::(ZkI))
abbrev ZfR:List (FuncId×Inl):=((23,(ZaO 64))::(ZkJ))
abbrev ZkK:List (FuncId×Inl):=((49,(inlOf prog (Zgp) [] 64 100 (ZfR) f49))::(ZfR))
abbrev Zsn:List (FuncId×Inl):=(ZkK)
theorem Zs6:IoRunIs prog (Zgp) [] 64 (Zsn) [] f20 89 Zgk Zgl Zgm Zgn Zgo [32,64] (fun x=>ZbK x.1 x.2.1 x.2.2):=by
 intro x;kernel_rfl
theorem Zs7{w0:World}(hcs:∀ x∈Zgp,SA w0 x.1 x.2)(hf47:ZaE w0)(hf48:Zcf w0)(hf23:ZaD w0):ZfQ w0:=by
 have i0:AllOK prog w0 [] 64 (ZkI):=Zaf (ZaL hf47 (by kernel_rfl) rfl) Za0
 have i1:AllOK prog w0 [] 64 (ZkJ):=Zaf (ZaL hf48 (by kernel_rfl) rfl) i0
 have i2:AllOK prog w0 [] 64 (ZfR):=Zaf (ZaL hf23 (by kernel_rfl) rfl) i1
 have i3:AllOK prog w0 [] 64 (ZkK):=Zaf (Zp6 hcs i2 func49 (by kernel_rfl) (by kernel_rfl)) i2
 exact ZaI hcs (Zah _ _) i3 func20 (by kernel_rfl) (by kernel_rfl) (fun w _ _=>Zae _) (by kernel_rfl) (Zs6)
theorem Zs8{w0:World}:ZfQ w0:=
 Zs7 Zax (Za1) (Zfk) (ZaX)
def Zhj:Ag ((Unit×Int)):=(.cons (.lit (.ptr 64 [] 42)) (.one (.int .i64)))
def Zhk:Ent ((Nat×LI)):=(.one 32 (.lst .u8))
def Zhl:Ent ((Bool×(Nat×Nat×Nat)×Int)):=(.one 64 (.agg (.cons .bool (.cons (.gpw 32 5) (.one (.int .i64))))))
def Zhm:Pt (List (Int)):=(.dvw 65 5 (.tc (.int .u8)))
def Zhn:Ent (((Bool×(Nat×Nat×Nat)×Int)×Unit)):=(.cons 64 (.agg (.cons .bool (.cons (.gpw 32 5) (.one (.int .i64))))) (.one 65 (.lit (.dc (.tc (.int .u8)) []))))
abbrev ZlK(c:Nat):Inl:=Inl.ct prog c 64 89 Zhj Zhk Zhl Zhm Zhn [32,64] (fun x=>Zbe x.1 x.2.1 x.2.2)
abbrev ZdM(w0:World):Prop:=SoundIo prog w0 16 64 89 Zhj Zhk Zhl Zhm Zhn [32,64] (fun x=>Zbe x.1 x.2.1 x.2.2)
def Zho:List (FuncId×Ct):=[(4294967295,fzCt),(34,ZdL)]
abbrev Zla:List (FuncId×Inl):=((47,(ZaP 64))::[])
abbrev Zlb:List (FuncId×Inl):=((23,(ZaO 64))::(Zla))
abbrev Zgq:List (FuncId×Inl):=((48,(ZeF 64))::(Zlb))
abbrev Zlc:List (FuncId×Inl):=((49,(inlOf prog (Zho) [] 64 100 (Zgq) f49))::(Zgq))
abbrev Zs9:List (FuncId×Inl):=(Zlc)
theorem ZtT:IoRunIs prog (Zho) [] 64 (Zs9) [] f16 89 Zhj Zhk Zhl Zhm Zhn [32,64] (fun x=>Zbe x.1 x.2.1 x.2.2):=by
 intro x;kernel_rfl
theorem ZtU{w0:World}(hcs:∀ x∈Zho,SA w0 x.1 x.2)(hf47:ZaE w0)(hf23:ZaD w0)(hf48:Zcf w0):ZdM w0:=by
 have i0:AllOK prog w0 [] 64 (Zla):=Zaf (ZaL hf47 (by kernel_rfl) rfl) Za0
 have i1:AllOK prog w0 [] 64 (Zlb):=Zaf (ZaL hf23 (by kernel_rfl) rfl) i0
 have i2:AllOK prog w0 [] 64 (Zgq):=Zaf (ZaL hf48 (by kernel_rfl) rfl) i1
 have i3:AllOK prog w0 [] 64 (Zlc):=Zaf (Zp6 hcs i2 func49 (by kernel_rfl) (by kernel_rfl)) i2
 exact ZaI hcs (Zah _ _) i3 func16 (by kernel_rfl) (by kernel_rfl) (fun w _ _=>Zae _) (by kernel_rfl) (ZtT)
theorem ZmI{w0:World}:ZdM w0:=
 ZtU (cs_fz (Zag (Zh3) Zax)) (Za1) (ZaX) (Zfk)
def Zh9:Ag (Unit):=(.one (.lit (.ptr 32 [] 42)))
def Zia:Ent (((Bool×(Nat×Nat×Nat)×Int)×(Nat×LI))):=(.cons 32 (.agg (.cons .bool (.cons (.gpw 33 5) (.one (.int .i64))))) (.one 33 (.lst .u8)))
def Zib:Ent (Unit):=.nil
def Zic:Pt (Int):=(.int .i64)
def Zid:Ent (Unit):=.nil
abbrev ZmJ(c:Nat):Inl:=Inl.ct prog c 64 88 Zh9 Zia Zib Zic Zid [32,33] (fun x=>Zde x.1 x.2.1 x.2.2)
abbrev ZeG(w0:World):Prop:=SoundIo prog w0 11 64 88 Zh9 Zia Zib Zic Zid [32,33] (fun x=>Zde x.1 x.2.1 x.2.2)
def ZmK:List (FuncId×Ct):=[]
abbrev ZlL:List (FuncId×Inl):=((46,(Zj9 64))::[])
abbrev ZtV:List (FuncId×Inl):=(ZlL)
theorem ZuI:IoRunIs prog (ZmK) [] 64 (ZtV) [] f11 88 Zh9 Zia Zib Zic Zid [32,33] (fun x=>Zde x.1 x.2.1 x.2.2):=by
 intro x;kernel_rfl
theorem ZuJ{w0:World}(hcs:∀ x∈ZmK,SA w0 x.1 x.2)(hf46:ZdE w0):ZeG w0:=by
 have i0:AllOK prog w0 [] 64 (ZlL):=Zaf (ZaL hf46 (by kernel_rfl) rfl) Za0
 exact ZaI hcs (Zah _ _) i0 func11 (by kernel_rfl) (by kernel_rfl) (fun w _ _=>Zae _) (by kernel_rfl) (ZuI)
theorem Znx{w0:World}:ZeG w0:=
 ZuJ Zax (Zk7)
def Zgr:Ag (Unit):=(.one (.lit (.ptr 64 [] 42)))
def Zgs:Ent ((Nat×LI)):=(.one 32 (.lst .u8))
def Zgt:Ent ((Bool×(Nat×Nat×Nat)×Int)):=(.one 64 (.agg (.cons .bool (.cons (.gpw 32 5) (.one (.int .i64))))))
def Zgu:Pt (LI):=(.ints .u64 4)
def Zgv:Ent ((Bool×(Nat×Nat×Nat)×Int)):=(.one 64 (.agg (.cons .bool (.cons (.gpw 32 5) (.one (.int .i64))))))
abbrev Zld(N:Nat)(c:Nat):Inl:=Inl.ct prog c 64 89 Zgr Zgs Zgt Zgu Zgv [32,64] (fun x=>Zby N x.1 x.2.1 x.2.2)
abbrev Zdf(w0:World)(N:Nat):Prop:=SoundIo prog w0 22 64 89 Zgr Zgs Zgt Zgu Zgv [32,64] (fun x=>Zby N x.1 x.2.1 x.2.2)
def Zgw(N:Nat):List (FuncId×Ct):=[(51,(ZjN N))]
abbrev ZkL(N:Nat):List (FuncId×Inl):=((47,(ZaP 64))::[])
abbrev ZkM(N:Nat):List (FuncId×Inl):=((21,(ZcB 64))::(ZkL N))
abbrev ZfS(N:Nat):List (FuncId×Inl):=((23,(ZaO 64))::(ZkM N))
abbrev ZkN(N:Nat):List (FuncId×Inl):=((49,(inlOf prog (Zgw N) [] 64 100 (ZfS N) f49))::(ZfS N))
abbrev Zso(N:Nat):List (FuncId×Inl):=(ZkN N)
theorem Zta(N:Nat):IoRunIs prog (Zgw N) [] 64 (Zso N) [] f22 89 Zgr Zgs Zgt Zgu Zgv [32,64] (fun x=>Zby N x.1 x.2.1 x.2.2):=by
 intro x;kernel_rfl
theorem Ztb{w0:World}(N:Nat)(hcs:∀ x∈Zgw N,SA w0 x.1 x.2)(hf47:ZaE w0)(hf21:ZbD w0)(hf23:ZaD w0):Zdf w0 N:=by
 have i0:AllOK prog w0 [] 64 (ZkL N):=Zaf (ZaL hf47 (by kernel_rfl) rfl) Za0
 have i1:AllOK prog w0 [] 64 (ZkM N):=Zaf (ZaL hf21 (by kernel_rfl) rfl) i0
 have i2:AllOK prog w0 [] 64 (ZfS N):=Zaf (ZaL hf23 (by kernel_rfl) rfl) i1
 have i3:AllOK prog w0 [] 64 (ZkN N):=Zaf (Zp6 hcs i2 func49 (by kernel_rfl) (by kernel_rfl)) i2
 exact ZaI hcs (Zah _ _) i3 func22 (by kernel_rfl) (by kernel_rfl) (fun w _ _=>Zae _) (by kernel_rfl) (Zta N)
theorem ZlM{w0:World}(N:Nat)(G:Gs w0):Zdf w0 N:=
 Ztb N (Zag (ZtM N G) Zax) (Za1) (ZcP) (ZaX)
def Zfq:Ag (Unit):=(.one (.lit (.ptr 64 [] 42)))
def Zfr:Ent ((Nat×LI)):=(.one 32 (.lst .u8))
def Zfs:Ent ((Bool×(Nat×Nat×Nat)×Int)):=(.one 64 (.agg (.cons .bool (.cons (.gpw 32 5) (.one (.int .i64))))))
def Zft:Pt (LI):=(.agg (.one (.ints .u64 4)))
def Zfu:Ent ((Bool×(Nat×Nat×Nat)×Int)):=(.one 64 (.agg (.cons .bool (.cons (.gpw 32 5) (.one (.int .i64))))))
abbrev ZeL(w0:World)(N:Nat):Prop:=SoundIo prog w0 26 64 89 Zfq Zfr Zfs Zft Zfu [32,64] (fun x=>Zbt N x.1 x.2.1 x.2.2)
def Zc3(N:Nat):List (FuncId×Ct):=[(51,(ZjN N))]
abbrev ZiI(N:Nat):List (FuncId×Inl):=((47,(ZaP 64))::[])
abbrev ZiJ(N:Nat):List (FuncId×Inl):=((21,(ZcB 64))::(ZiI N))
abbrev ZeM(N:Nat):List (FuncId×Inl):=((23,(ZaO 64))::(ZiJ N))
abbrev ZeN(N:Nat):List (FuncId×Inl):=((157,(inlOf prog (Zc3 N) [] 64 100 (ZeM N) f157))::(ZeM N))
abbrev ZiK(N:Nat):List (FuncId×Inl):=((49,(inlOf prog (Zc3 N) [] 64 100 (ZeN N) f49))::(ZeN N))
abbrev ZqI(N:Nat):List (FuncId×Inl):=(ZiK N)
theorem ZrL(N:Nat):IoRunIs prog (Zc3 N) [] 64 (ZqI N) [] f26 89 Zfq Zfr Zfs Zft Zfu [32,64] (fun x=>Zbt N x.1 x.2.1 x.2.2):=by
 intro x;kernel_rfl
theorem ZrM{w0:World}(N:Nat)(hcs:∀ x∈Zc3 N,SA w0 x.1 x.2)(hf47:ZaE w0)(hf21:ZbD w0)(hf23:ZaD w0):ZeL w0 N:=by
 have i0:AllOK prog w0 [] 64 (ZiI N):=Zaf (ZaL hf47 (by kernel_rfl) rfl) Za0
 have i1:AllOK prog w0 [] 64 (ZiJ N):=Zaf (ZaL hf21 (by kernel_rfl) rfl) i0
 have i2:AllOK prog w0 [] 64 (ZeM N):=Zaf (ZaL hf23 (by kernel_rfl) rfl) i1
 have i3:AllOK prog w0 [] 64 (ZeN N):=Zaf (Zp6 hcs i2 func157 (by kernel_rfl) (by kernel_rfl)) i2
 have i4:AllOK prog w0 [] 64 (ZiK N):=Zaf (Zp6 hcs i3 func49 (by kernel_rfl) (by kernel_rfl)) i3
 exact ZaI hcs (Zah _ _) i4 func26 (by kernel_rfl) (by kernel_rfl) (fun w _ _=>Zae _) (by kernel_rfl) (ZrL N)
theorem ZrN{w0:World}(N:Nat)(G:Gs w0):ZeL w0 N:=
 ZrM N (Zag (ZtM N G) Zax) (Za1) (ZcP) (ZaX)
def ZdN:Ag (Unit):=(.one (.lit (.ptr 64 [] 42)))
def ZdO:Ent ((Nat×LI)):=(.one 32 (.lst .u8))
def ZdP:Ent ((Bool×(Nat×Nat×Nat)×Int)):=(.one 64 (.agg (.cons .bool (.cons (.gpw 32 5) (.one (.int .i64))))))
def ZdQ:Pt ((LI×LI×LI×LI)):=(.agg (.one (.agg (.one (.agg (.cons (.ints .u64 5) (.cons (.ints .u64 5) (.cons (.ints .u64 5) (.one (.ints .u64 5))))))))))
def ZdR:Ent ((Bool×(Nat×Nat×Nat)×Int)):=(.one 64 (.agg (.cons .bool (.cons (.gpw 32 5) (.one (.int .i64))))))
abbrev Zdm(w0:World)(N:Nat):Prop:=SoundIo prog w0 38 64 89 ZdN ZdO ZdP ZdQ ZdR [32,64] (fun x=>Za8 N x.1 x.2.1 x.2.2)
def ZdS(N:Nat):List (FuncId×Ct):=[]
abbrev ZgG(N:Nat):List (FuncId×Inl):=((47,(ZaP 64))::[])
abbrev ZgH(N:Nat):List (FuncId×Inl):=((21,(ZcB 64))::(ZgG N))
abbrev ZgI(N:Nat):List (FuncId×Inl):=((167,(Inl.ct prog 64 64 88 Zg3 Zg4 Zg5 Zg6 Zg7 [] (fun x=>Zca N x.1 x.2.1 x.2.2)))::(ZgH N))
abbrev Zdn(N:Nat):List (FuncId×Inl):=((23,(ZaO 64))::(ZgI N))
abbrev ZgJ(N:Nat):List (FuncId×Inl):=((49,(inlOf prog (ZdS N) [] 64 100 (Zdn N) f49))::(Zdn N))
abbrev ZnP(N:Nat):List (FuncId×Inl):=(ZgJ N)
theorem ZoC(N:Nat):IoRunIs prog (ZdS N) [] 64 (ZnP N) [] f38 89 ZdN ZdO ZdP ZdQ ZdR [32,64] (fun x=>Za8 N x.1 x.2.1 x.2.2):=by
 intro x;kernel_rfl
theorem ZoD{w0:World}(N:Nat)(hcs:∀ x∈ZdS N,SA w0 x.1 x.2)(hf47:ZaE w0)(hf21:ZbD w0)(hf167:Zf9 w0 N)(hf23:ZaD w0):Zdm w0 N:=by
 have i0:AllOK prog w0 [] 64 (ZgG N):=Zaf (ZaL hf47 (by kernel_rfl) rfl) Za0
 have i1:AllOK prog w0 [] 64 (ZgH N):=Zaf (ZaL hf21 (by kernel_rfl) rfl) i0
 have i2:AllOK prog w0 [] 64 (ZgI N):=Zaf (ZaL hf167 (by kernel_rfl) rfl) i1
 have i3:AllOK prog w0 [] 64 (Zdn N):=Zaf (ZaL hf23 (by kernel_rfl) rfl) i2
 have i4:AllOK prog w0 [] 64 (ZgJ N):=Zaf (Zp6 hcs i3 func49 (by kernel_rfl) (by kernel_rfl)) i3
 exact ZaI hcs (Zah _ _) i4 func38 (by kernel_rfl) (by kernel_rfl) (fun w _ _=>Zae _) (by kernel_rfl) (ZoC N)
theorem ZoE{w0:World}(N:Nat)(G:Gs w0):Zdm w0 N:=
 ZoD N Zax (Za1) (ZcP) (Ztz N G) (ZaX)
def Zfv:Ag (Unit):=(.one (.lit (.ptr 64 [] 42)))
def Zfw:Ent ((Nat×LI)):=(.one 32 (.lst .u8))
def Zfx:Ent ((Bool×(Nat×Nat×Nat)×Int)):=(.one 64 (.agg (.cons .bool (.cons (.gpw 32 5) (.one (.int .i64))))))
def Zfy:Pt (Unit):=(.agg (.one (.lit .nils)))
def Zfz:Ent ((Bool×(Nat×Nat×Nat)×Int)):=(.one 64 (.agg (.cons .bool (.cons (.gpw 32 5) (.one (.int .i64))))))
abbrev ZeO(w0:World):Prop:=SoundIo prog w0 43 64 89 Zfv Zfw Zfx Zfy Zfz [32,64] (fun x=>ZbH x.1 x.2.1 x.2.2)
def Zc4:List (FuncId×Ct):=[]
abbrev ZiL:List (FuncId×Inl):=((47,(ZaP 64))::[])
abbrev ZiM:List (FuncId×Inl):=((21,(ZcB 64))::(ZiL))
abbrev ZeP:List (FuncId×Inl):=((23,(ZaO 64))::(ZiM))
abbrev ZeQ:List (FuncId×Inl):=((172,(inlOf prog (Zc4) [] 64 100 (ZeP) f172))::(ZeP))
abbrev ZiN:List (FuncId×Inl):=((49,(inlOf prog (Zc4) [] 64 100 (ZeQ) f49))::(ZeQ))
abbrev ZqJ:List (FuncId×Inl):=(ZiN)
theorem ZrO:IoRunIs prog (Zc4) [] 64 (ZqJ) [] f43 89 Zfv Zfw Zfx Zfy Zfz [32,64] (fun x=>ZbH x.1 x.2.1 x.2.2):=by
 intro x;kernel_rfl
theorem ZrP{w0:World}(hcs:∀ x∈Zc4,SA w0 x.1 x.2)(hf47:ZaE w0)(hf21:ZbD w0)(hf23:ZaD w0):ZeO w0:=by
 have i0:AllOK prog w0 [] 64 (ZiL):=Zaf (ZaL hf47 (by kernel_rfl) rfl) Za0
 have i1:AllOK prog w0 [] 64 (ZiM):=Zaf (ZaL hf21 (by kernel_rfl) rfl) i0
 have i2:AllOK prog w0 [] 64 (ZeP):=Zaf (ZaL hf23 (by kernel_rfl) rfl) i1
 have i3:AllOK prog w0 [] 64 (ZeQ):=Zaf (Zp6 hcs i2 func172 (by kernel_rfl) (by kernel_rfl)) i2
 have i4:AllOK prog w0 [] 64 (ZiN):=Zaf (Zp6 hcs i3 func49 (by kernel_rfl) (by kernel_rfl)) i3
 exact ZaI hcs (Zah _ _) i4 func43 (by kernel_rfl) (by kernel_rfl) (fun w _ _=>Zae _) (by kernel_rfl) (ZrO)
theorem ZrQ{w0:World}:ZeO w0:=
 ZrP Zax (Za1) (ZcP) (ZaX)
def Zjc:Ag (Unit):=(.one (.lit (.ptr 32 [] 42)))
def Zjd:Ent (((Bool×(Nat×Nat×Nat)×Int)×(Nat×LI))):=(.cons 32 (.agg (.cons .bool (.cons (.gpw 33 5) (.one (.int .i64))))) (.one 33 (.lst .u8)))
def Zje:Ent (Unit):=.nil
def Zjf:Pt (Int):=(.int .i64)
def Zjg:Ent (Unit):=.nil
abbrev ZfH(c:Nat):Inl:=Inl.ct prog c 64 88 Zjc Zjd Zje Zjf Zjg [32,33] (fun x=>Zbd x.1 x.2.1 x.2.2)
abbrev ZcC(w0:World):Prop:=SoundIo prog w0 13 64 88 Zjc Zjd Zje Zjf Zjg [32,33] (fun x=>Zbd x.1 x.2.1 x.2.2)
def Zny:List (FuncId×Ct):=[]
abbrev ZmL:List (FuncId×Inl):=((46,(Zj9 64))::[])
abbrev ZuK:List (FuncId×Inl):=(ZmL)
theorem ZvK:IoRunIs prog (Zny) [] 64 (ZuK) [] f13 88 Zjc Zjd Zje Zjf Zjg [32,33] (fun x=>Zbd x.1 x.2.1 x.2.2):=by
 intro x;kernel_rfl
theorem ZvL{w0:World}(hcs:∀ x∈Zny,SA w0 x.1 x.2)(hf46:ZdE w0):ZcC w0:=by
 have i0:AllOK prog w0 [] 64 (ZmL):=Zaf (ZaL hf46 (by kernel_rfl) rfl) Za0
 exact ZaI hcs (Zah _ _) i0 func13 (by kernel_rfl) (by kernel_rfl) (fun w _ _=>Zae _) (by kernel_rfl) (ZvK)
theorem Zgx{w0:World}:ZcC w0:=
 ZvL Zax (Zk7)
def Zjh:Ag (Unit):=(.one (.lit (.ptr 64 [] 42)))
def Zji:Ent ((Nat×LI)):=(.one 32 (.lst .u8))
def Zjj:Ent ((Bool×(Nat×Nat×Nat)×Int)):=(.one 64 (.agg (.cons .bool (.cons (.gpw 32 5) (.one (.int .i64))))))
def Zjk:Pt (Int):=(.int .i64)
def Zjl:Ent ((Bool×(Nat×Nat×Nat)×Int)):=(.one 64 (.agg (.cons .bool (.cons (.gpw 32 5) (.one (.int .i64))))))
abbrev Znz(c:Nat):Inl:=Inl.ct prog c 64 89 Zjh Zji Zjj Zjk Zjl [32,64] (fun x=>Zcg x.1 x.2.1 x.2.2)
abbrev Zfl(w0:World):Prop:=SoundIo prog w0 14 64 89 Zjh Zji Zjj Zjk Zjl [32,64] (fun x=>Zcg x.1 x.2.1 x.2.2)
def ZnA:List (FuncId×Ct):=[]
abbrev ZmM:List (FuncId×Inl):=((47,(ZaP 64))::[])
abbrev ZmN:List (FuncId×Inl):=((23,(ZaO 64))::(ZmM))
abbrev ZmO:List (FuncId×Inl):=((13,(ZfH 64))::(ZmN))
abbrev ZuL:List (FuncId×Inl):=(ZmO)
theorem ZvM:IoRunIs prog (ZnA) [] 64 (ZuL) [] f14 89 Zjh Zji Zjj Zjk Zjl [32,64] (fun x=>Zcg x.1 x.2.1 x.2.2):=by
 intro x;kernel_rfl
theorem ZvN{w0:World}(hcs:∀ x∈ZnA,SA w0 x.1 x.2)(hf47:ZaE w0)(hf23:ZaD w0)(hf13:ZcC w0):Zfl w0:=by
 have i0:AllOK prog w0 [] 64 (ZmM):=Zaf (ZaL hf47 (by kernel_rfl) rfl) Za0
 have i1:AllOK prog w0 [] 64 (ZmN):=Zaf (ZaL hf23 (by kernel_rfl) rfl) i0
 have i2:AllOK prog w0 [] 64 (ZmO):=Zaf (ZaL hf13 (by kernel_rfl) rfl) i1
 exact ZaI hcs (Zah _ _) i2 func14 (by kernel_rfl) (by kernel_rfl) (fun w _ _=>Zae _) (by kernel_rfl) (ZvM)
theorem ZoF{w0:World}:Zfl w0:=
 ZvN Zax (Za1) (ZaX) (Zgx)
def Zl2:Ag ((Nat×Nat×Nat)):=(.one (.gpw 32 5))
def Zl3:Ent ((Nat×LI)):=(.one 32 (.lst .u8))
def Zl4:Ent (Unit):=.nil
def Zl5:Pt (Unit):=(.lit (.ptr 64 [] 42))
def Zl6:Ent (((Bool×(Nat×Nat×Nat)×Int)×(Nat×LI))):=(.cons 64 (.agg (.cons .bool (.cons (.gpw 65 5) (.one (.int .i64))))) (.one 65 (.lst .u8)))
abbrev Zle(w0:World):Prop:=SoundIo prog w0 7 64 88 Zl2 Zl3 Zl4 Zl5 Zl6 [32] (fun x=>ZgU x.1 x.2.1 x.2.2)
def ZrR:List (FuncId×Ct):=[(34,ZdL)]
abbrev ZrS:List (FuncId×Inl):=[]
theorem Zy7:IoRunIs prog (ZrR) [] 64 (ZrS) [] f7 88 Zl2 Zl3 Zl4 Zl5 Zl6 [32] (fun x=>ZgU x.1 x.2.1 x.2.2):=by
 intro x;kernel_rfl
theorem Zy8{w0:World}(hcs:∀ x∈ZrR,SA w0 x.1 x.2):Zle w0:=by
 have ik:AllOK prog w0 [] 64 (ZrS):=Za0
 exact ZaI hcs (Zah _ _) ik func7 (by kernel_rfl) (by kernel_rfl) (fun w _ _=>Zae _) (by kernel_rfl) (Zy7)
theorem Zy9{w0:World}:Zle w0:=
 Zy8 (Zag (Zh3) Zax)
def ZeR:Ag (Unit):=(.one (.lit (.ptr 32 [] 37)))
def ZeS:Ent (((Nat×Int×Int)×(Nat×LI))):=(.cons 32 (.agg (.cons (.slw 33 5) (.cons (.int .i64) (.one (.int .i64))))) (.one 33 (.lst .u8)))
def ZeT:Ent (Unit):=.nil
def ZeU:Pt (Int):=(.int .i64)
def ZeV:Ent (Unit):=.nil
abbrev Zck(c:Nat):Inl:=Inl.ct prog c 64 88 ZeR ZeS ZeT ZeU ZeV [32,33] (fun x=>Za9 x.1 x.2.1 x.2.2)
abbrev Zbs(w0:World):Prop:=SoundIo prog w0 12 64 88 ZeR ZeS ZeT ZeU ZeV [32,33] (fun x=>Za9 x.1 x.2.1 x.2.2)
def ZiO:List (FuncId×Ct):=[]
abbrev ZiP:List (FuncId×Inl):=[]
theorem ZqK:IoRunIs prog (ZiO) [] 64 (ZiP) [] f12 88 ZeR ZeS ZeT ZeU ZeV [32,33] (fun x=>Za9 x.1 x.2.1 x.2.2):=by
 intro x;kernel_rfl
theorem ZqL{w0:World}(hcs:∀ x∈ZiO,SA w0 x.1 x.2):Zbs w0:=by
 have ik:AllOK prog w0 [] 64 (ZiP):=Za0
 exact ZaI hcs (Zah _ _) ik func12 (by kernel_rfl) (by kernel_rfl) (fun w _ _=>Zae _) (by kernel_rfl) (ZqK)
theorem Zcr{w0:World}:Zbs w0:=
 ZqL Zax
def ZeW:Ag ((Unit×Int)):=(.cons (.lit (.ptr 64 [] 37)) (.one (.int .i64)))
def ZeX:Ent (Unit):=.nil
def ZeY:Ent (((Nat×Int×Int)×(Nat×LI))):=(.cons 64 (.agg (.cons (.gsw 65 5) (.cons (.int .i64) (.one (.int .i64))))) (.one 65 (.lst .u8)))
def ZeZ:Pt (Unit):=(.tup .nil)
def Ze0:Ent (((Nat×Int×Int)×(Nat×LI))):=(.cons 64 (.agg (.cons (.gsw 65 5) (.cons (.int .i64) (.one (.int .i64))))) (.one 65 (.lst .u8)))
abbrev Zek(w0:World):Prop:=SoundIo prog w0 44 64 90 ZeW ZeX ZeY ZeZ Ze0 [64] (fun x=>Zch x.1 x.2.1 x.2.2)
def ZiQ:List (FuncId×Ct):=[]
abbrev ZiR:List (FuncId×Inl):=[]
theorem ZqM:IoRunIs prog (ZiQ) [] 64 (ZiR) [] f44 90 ZeW ZeX ZeY ZeZ Ze0 [64] (fun x=>Zch x.1 x.2.1 x.2.2):=by
 intro x;kernel_rfl
theorem ZqN{w0:World}(hcs:∀ x∈ZiQ,SA w0 x.1 x.2):Zek w0:=by
 have ik:AllOK prog w0 [] 64 (ZiR):=Za0
 exact ZaI hcs (Zah _ _) ik func44 (by kernel_rfl) (by kernel_rfl) (fun w _ _=>Zae _) (by kernel_rfl) (ZqM)
theorem ZqO{w0:World}:Zek w0:=
 ZqN Zax
def ZfA:Ag (Unit):=(.one (.lit (.ptr 64 [] 37)))
def ZfB:Ent (Unit):=.nil
def ZfC:Ent (((Nat×Int×Int)×(Nat×LI))):=(.cons 64 (.agg (.cons (.gsw 65 5) (.cons (.int .i64) (.one (.int .i64))))) (.one 65 (.lst .u8)))
def ZfD:Pt (Int):=(.int .i64)
def ZfE:Ent (((Nat×Int×Int)×(Nat×LI))):=(.cons 64 (.agg (.cons (.gsw 65 5) (.cons (.int .i64) (.one (.int .i64))))) (.one 65 (.lst .u8)))
abbrev ZjF(c:Nat):Inl:=Inl.ct prog c 64 90 ZfA ZfB ZfC ZfD ZfE [64] (fun x=>Zbu x.1 x.2.1 x.2.2)
abbrev ZcV(w0:World):Prop:=SoundIo prog w0 15 64 90 ZfA ZfB ZfC ZfD ZfE [64] (fun x=>Zbu x.1 x.2.1 x.2.2)
def ZjG:List (FuncId×Ct):=[]
abbrev ZiS:List (FuncId×Inl):=((12,(Zck 64))::[])
abbrev ZqP:List (FuncId×Inl):=(ZiS)
theorem ZrT:IoRunIs prog (ZjG) [] 64 (ZqP) [] f15 90 ZfA ZfB ZfC ZfD ZfE [64] (fun x=>Zbu x.1 x.2.1 x.2.2):=by
 intro x;kernel_rfl
theorem ZrU{w0:World}(hcs:∀ x∈ZjG,SA w0 x.1 x.2)(hf12:Zbs w0):ZcV w0:=by
 have i0:AllOK prog w0 [] 64 (ZiS):=Zaf (ZaL hf12 (by kernel_rfl) rfl) Za0
 exact ZaI hcs (Zah _ _) i0 func15 (by kernel_rfl) (by kernel_rfl) (fun w _ _=>Zae _) (by kernel_rfl) (ZrT)
theorem ZkO{w0:World}:ZcV w0:=
 ZrU Zax (Zcr)
def Zm4:Ag (List (Int)):=(.one (.dvw 32 5 (.tc (.int .u8))))
def Zm5:Ent (Unit):=.nil
def Zm6:Ent (Unit):=.nil
def Zm7:Pt (Unit):=(.lit (.ptr 64 [] 37))
def Zm8:Ent (((Nat×Int×Int)×(Nat×LI))):=(.cons 64 (.agg (.cons (.gsw 65 5) (.cons (.int .i64) (.one (.int .i64))))) (.one 65 (.lst .u8)))
abbrev Zl7(w0:World):Prop:=SoundIo prog w0 9 64 88 Zm4 Zm5 Zm6 Zm7 Zm8 [] (fun x=>ZiC x.1 x.2.1 x.2.2)
def ZsS:List (FuncId×Ct):=[]
abbrev ZsT:List (FuncId×Inl):=[]
theorem Zzy:IoRunIs prog (ZsS) [] 64 (ZsT) [] f9 88 Zm4 Zm5 Zm6 Zm7 Zm8 [] (fun x=>ZiC x.1 x.2.1 x.2.2):=by
 intro x;kernel_rfl
theorem Zzz{w0:World}(hcs:∀ x∈ZsS,SA w0 x.1 x.2):Zl7 w0:=by
 have ik:AllOK prog w0 [] 64 (ZsT):=Za0
 exact ZaI hcs (Zah _ _) ik func9 (by kernel_rfl) (by kernel_rfl) (fun w _ _=>Zae _) (by kernel_rfl) (Zzy)
theorem ZzA{w0:World}:Zl7 w0:=
 Zzz Zax
def Zdo:Ag (Unit):=(.one (.lit (.ptr 64 [] 37)))
def Zdp:Ent (Unit):=.nil
def Zdq:Ent (((Nat×Int×Int)×(Nat×LI))):=(.cons 64 (.agg (.cons (.gsw 65 5) (.cons (.int .i64) (.one (.int .i64))))) (.one 65 (.lst .u8)))
def Zdr:Pt (LI):=(.ints .u8 32)
def Zds:Ent (((Nat×Int×Int)×(Nat×LI))):=(.cons 64 (.agg (.cons (.gsw 65 5) (.cons (.int .i64) (.one (.int .i64))))) (.one 65 (.lst .u8)))
abbrev Zdt(c:Nat):Inl:=Inl.ct prog c 64 90 Zdo Zdp Zdq Zdr Zds [64] (fun x=>ZaM x.1 x.2.1 x.2.2)
abbrev ZbR(w0:World):Prop:=SoundIo prog w0 36 64 90 Zdo Zdp Zdq Zdr Zds [64] (fun x=>ZaM x.1 x.2.1 x.2.2)
def ZgK:List (FuncId×Ct):=[]
abbrev ZfZ:List (FuncId×Inl):=((12,(Zck 64))::[])
abbrev Zm9:List (FuncId×Inl):=(ZfZ)
theorem ZnQ:IoRunIs prog (ZgK) [] 64 (Zm9) [] f36 90 Zdo Zdp Zdq Zdr Zds [64] (fun x=>ZaM x.1 x.2.1 x.2.2):=by
 intro x;kernel_rfl
theorem ZnR{w0:World}(hcs:∀ x∈ZgK,SA w0 x.1 x.2)(hf12:Zbs w0):ZbR w0:=by
 have i0:AllOK prog w0 [] 64 (ZfZ):=Zaf (ZaL hf12 (by kernel_rfl) rfl) Za0
 exact ZaI hcs (Zah _ _) i0 func36 (by kernel_rfl) (by kernel_rfl) (fun w _ _=>Zae _) (by kernel_rfl) (ZnQ)
theorem ZdT{w0:World}:ZbR w0:=
 ZnR Zax (Zcr)
def ZdU:Ag (Unit):=(.one (.lit (.ptr 64 [] 37)))
def ZdV:Ent (Unit):=.nil
def ZdW:Ent (((Nat×Int×Int)×(Nat×LI))):=(.cons 64 (.agg (.cons (.gsw 65 5) (.cons (.int .i64) (.one (.int .i64))))) (.one 65 (.lst .u8)))
def ZdX:Pt (LI):=(.ints .u64 4)
def ZdY:Ent (((Nat×Int×Int)×(Nat×LI))):=(.cons 64 (.agg (.cons (.gsw 65 5) (.cons (.int .i64) (.one (.int .i64))))) (.one 65 (.lst .u8)))
abbrev ZhC(N:Nat)(c:Nat):Inl:=Inl.ct prog c 64 90 ZdU ZdV ZdW ZdX ZdY [64] (fun x=>ZaQ N x.1 x.2.1 x.2.2)
abbrev Zcw(w0:World)(N:Nat):Prop:=SoundIo prog w0 37 64 90 ZdU ZdV ZdW ZdX ZdY [64] (fun x=>ZaQ N x.1 x.2.1 x.2.2)
def ZhD(N:Nat):List (FuncId×Ct):=[(57,(Zgj N))]
abbrev ZgL(N:Nat):List (FuncId×Inl):=((36,(Zdt 64))::[])
abbrev ZnS(N:Nat):List (FuncId×Inl):=(ZgL N)
theorem ZoG(N:Nat):IoRunIs prog (ZhD N) [] 64 (ZnS N) [] f37 90 ZdU ZdV ZdW ZdX ZdY [64] (fun x=>ZaQ N x.1 x.2.1 x.2.2):=by
 intro x;kernel_rfl
theorem ZoH{w0:World}(N:Nat)(hcs:∀ x∈ZhD N,SA w0 x.1 x.2)(hf36:ZbR w0):Zcw w0 N:=by
 have i0:AllOK prog w0 [] 64 (ZgL N):=Zaf (ZaL hf36 (by kernel_rfl) rfl) Za0
 exact ZaI hcs (Zah _ _) i0 func37 (by kernel_rfl) (by kernel_rfl) (fun w _ _=>Zae _) (by kernel_rfl) (ZoG N)
theorem Zie{w0:World}(N:Nat):Zcw w0 N:=
 ZoH N (Zag (Zp1 N) Zax) (ZdT)
def Zel:Ag ((Unit×Int)):=(.cons (.lit (.ptr 64 [] 37)) (.one (.int .i64)))
def Zem:Ent (Unit):=.nil
def Zen:Ent (((Nat×Int×Int)×(Nat×LI))):=(.cons 64 (.agg (.cons (.gsw 65 5) (.cons (.int .i64) (.one (.int .i64))))) (.one 65 (.lst .u8)))
def Zeo:Pt ((Int×(LI×LI)×LI×Unit)):=(.agg (.cons (.int .i64) (.cons (.agg (.one (.agg (.cons (.ints .i64 10) (.one (.ints .i64 10)))))) (.cons (.ints .u64 4) (.one (.lit .nils))))))
def Zep:Ent (((Nat×Int×Int)×(Nat×LI))):=(.cons 64 (.agg (.cons (.gsw 65 5) (.cons (.int .i64) (.one (.int .i64))))) (.one 65 (.lst .u8)))
abbrev ZdZ(w0:World)(N:Nat):Prop:=SoundIo prog w0 40 64 90 Zel Zem Zen Zeo Zep [64] (fun x=>Zao N x.1 x.2.1 x.2.2)
def Zif(N:Nat):List (FuncId×Ct):=[(72,ZfG),(73,(Zj3 N))]
abbrev ZhE(N:Nat):List (FuncId×Inl):=((36,(Zdt 64))::[])
abbrev ZoI(N:Nat):List (FuncId×Inl):=(ZhE N)
theorem Zpj(N:Nat):IoRunIs prog (Zif N) [] 64 (ZoI N) [] f40 90 Zel Zem Zen Zeo Zep [64] (fun x=>Zao N x.1 x.2.1 x.2.2):=by
 intro x;kernel_rfl
theorem Zpk{w0:World}(N:Nat)(hcs:∀ x∈Zif N,SA w0 x.1 x.2)(hf36:ZbR w0):ZdZ w0 N:=by
 have i0:AllOK prog w0 [] 64 (ZhE N):=Zaf (ZaL hf36 (by kernel_rfl) rfl) Za0
 exact ZaI hcs (Zah _ _) i0 func40 (by kernel_rfl) (by kernel_rfl) (fun w _ _=>Zae _) (by kernel_rfl) (Zpj N)
theorem Zpl{w0:World}(N:Nat)(G:Gs w0):ZdZ w0 N:=
 Zpk N (Zag (Zox) (Zag (ZwU N G) Zax)) (ZdT)
abbrev Zp7:Ag (Int):=(.one (.int .u64))
abbrev Zp8:Pt (((Nat×LI)×Unit)):=(.tup (.cons (.lst .u8) (.one (.lit (.clo 5 [])))))
def Zka(N:Nat):Ct:=fct Zp7 Zp8 fun x=>ZgM N x
def Zgy(N:Nat):List (FuncId×Ct):=[]
def Zig:Fm ((Int×Unit×Nat)) ((Nat×LI)):=⟨(.cons 0 (.int .u64) (.cons 2 (.lit .nils) (.one 3 (.gsw 0 5)))),(.one 0 (.lst .u8))⟩
def Zih:Fm ((Int×Nat)) ((Nat×LI)):=⟨(.cons 0 (.int .u64) (.one 3 (.gsw 0 5))),(.one 0 (.lst .u8))⟩
def Zii:Fm (Unit) (Unit):=⟨.nil,.nil⟩
def Zkb(N:Nat):List (Nat×Lf):=[(0,loopCt Zig Zih Zii 2 (Zcz N) N)]
theorem ZrV(N:Nat):StepIs prog (cxOf f83 (Zgy N) [] 0) (Zkb N) f83 0 2 Zig Zih Zii (Zcz N):=by
 intro v;kernel_rfl
theorem ZwX(N:Nat):RunIs prog (Zgy N) [] 0 (Zkb N) f83 Zp7 Zp8 (fun x=>ZgM N x):=by
 intro x;kernel_rfl
theorem ZwY{w0:World}(N:Nat)(hcs:∀ x∈Zgy N,SA w0 x.1 x.2):SA w0 83 (Zka N):=by
 have L0:∀ w:Base,w.g=w0→LoopOK prog (cxOf f83 (Zgy N) [] 0) w 0 (.loop (loopBody f83 0)) (loopCt Zig Zih Zii 2 (Zcz N) N):=
  Zfb hcs (ls:=Zkb N) (n:=100) (by kernel_rfl) (ZrV N) N fun w hw=>ZaH (lp_no (by kernel_rfl) ZeI)
 exact Zak hcs (Zah _ _) func83 (by kernel_rfl) (by kernel_rfl) (S:=0) (fun w hw=>ZaH (Zmu (L0 w hw) (by kernel_rfl) ZeI)) (fun _=>rfl) (ZwX N)
theorem ZwZ{w0:World}(N:Nat):SA w0 83 (Zka N):=
 ZwY N Zax
def Zd0:Ag (Unit):=(.one (.lit (.ptr 32 [] 37)))
def Zd1:Ent (((Nat×Int×Int)×(Nat×LI))):=(.cons 32 (.agg (.cons (.slw 33 5) (.cons (.int .i64) (.one (.int .i64))))) (.one 33 (.lst .u8)))
def Zd2:Ent (Unit):=.nil
def Zd3:Pt ((Int×Int×Int)):=(.tup (.cons (.int .u64) (.cons (.int .i64) (.one (.int .i64)))))
def Zd4:Ent (Unit):=.nil
abbrev ZhF(N:Nat)(c:Nat):Inl:=Inl.ct prog c 64 88 Zd0 Zd1 Zd2 Zd3 Zd4 [32,33] (fun x=>ZbE N x.1 x.2.1 x.2.2)
abbrev Zcx(w0:World)(N:Nat):Prop:=SoundIo prog w0 56 64 88 Zd0 Zd1 Zd2 Zd3 Zd4 [32,33] (fun x=>ZbE N x.1 x.2.1 x.2.2)
def ZhG(N:Nat):List (FuncId×Ct):=[(83,(Zka N))]
abbrev ZhH(N:Nat):List (FuncId×Inl):=[]
theorem ZoJ(N:Nat):IoRunIs prog (ZhG N) [] 64 (ZhH N) [] f56 88 Zd0 Zd1 Zd2 Zd3 Zd4 [32,33] (fun x=>ZbE N x.1 x.2.1 x.2.2):=by
 intro x;kernel_rfl
theorem ZoK{w0:World}(N:Nat)(hcs:∀ x∈ZhG N,SA w0 x.1 x.2):Zcx w0 N:=by
 have ik:AllOK prog w0 [] 64 (ZhH N):=Za0
 exact ZaI hcs (Zah _ _) ik func56 (by kernel_rfl) (by kernel_rfl) (fun w _ _=>Zae _) (by kernel_rfl) (ZoJ N)
theorem Zij{w0:World}(N:Nat):Zcx w0 N:=
 ZoK N (Zag (ZwZ N) Zax)
def Zd5:Ag ((Unit×Int)):=(.cons (.lit (.ptr 64 [] 37)) (.one (.int .u64)))
def Zd6:Ent (Unit):=.nil
def Zd7:Ent (((Nat×Int×Int)×(Nat×LI))):=(.cons 64 (.agg (.cons (.gsw 65 5) (.cons (.int .i64) (.one (.int .i64))))) (.one 65 (.lst .u8)))
def Zd8:Pt (Int):=(.int .u64)
def Zd9:Ent (((Nat×Int×Int)×(Nat×LI))):=(.cons 64 (.agg (.cons (.gsw 65 5) (.cons (.int .i64) (.one (.int .i64))))) (.one 65 (.lst .u8)))
abbrev Zdu(w0:World)(N:Nat):Prop:=SoundIo prog w0 35 64 90 Zd5 Zd6 Zd7 Zd8 Zd9 [64] (fun x=>Zba N x.1 x.2.1 x.2.2)
def ZhI(N:Nat):List (FuncId×Ct):=[]
abbrev ZgN(N:Nat):List (FuncId×Inl):=((56,(ZhF N 64))::[])
abbrev ZnT(N:Nat):List (FuncId×Inl):=(ZgN N)
theorem ZoL(N:Nat):IoRunIs prog (ZhI N) [] 64 (ZnT N) [] f35 90 Zd5 Zd6 Zd7 Zd8 Zd9 [64] (fun x=>Zba N x.1 x.2.1 x.2.2):=by
 intro x;kernel_rfl
theorem ZoM{w0:World}(N:Nat)(hcs:∀ x∈ZhI N,SA w0 x.1 x.2)(hf56:Zcx w0 N):Zdu w0 N:=by
 have i0:AllOK prog w0 [] 64 (ZgN N):=Zaf (ZaL hf56 (by kernel_rfl) rfl) Za0
 exact ZaI hcs (Zah _ _) i0 func35 (by kernel_rfl) (by kernel_rfl) (fun w _ _=>Zae _) (by kernel_rfl) (ZoL N)
theorem ZoN{w0:World}(N:Nat):Zdu w0 N:=
 ZoM N Zax (Zij N)
def Zeq:Ag ((Unit×Int)):=(.cons (.lit (.ptr 64 [] 37)) (.one (.int .i64)))
def Zer:Ent (Unit):=.nil
def Zes:Ent (((Nat×Int×Int)×(Nat×LI))):=(.cons 64 (.agg (.cons (.gsw 65 5) (.cons (.int .i64) (.one (.int .i64))))) (.one 65 (.lst .u8)))
def Zet:Pt ((Int×Int)):=(.tup (.cons (.int .i64) (.one (.int .i64))))
def Zeu:Ent (((Nat×Int×Int)×(Nat×LI))):=(.cons 64 (.agg (.cons (.gsw 65 5) (.cons (.int .i64) (.one (.int .i64))))) (.one 65 (.lst .u8)))
abbrev Zik(N:Nat)(c:Nat):Inl:=Inl.ct prog c 64 90 Zeq Zer Zes Zet Zeu [64] (fun x=>Zau N x.1 x.2.1 x.2.2)
abbrev ZcH(w0:World)(N:Nat):Prop:=SoundIo prog w0 50 64 90 Zeq Zer Zes Zet Zeu [64] (fun x=>Zau N x.1 x.2.1 x.2.2)
def Zil(N:Nat):List (FuncId×Ct):=[]
abbrev ZhJ(N:Nat):List (FuncId×Inl):=((56,(ZhF N 64))::[])
abbrev ZoO(N:Nat):List (FuncId×Inl):=(ZhJ N)
theorem Zpm(N:Nat):IoRunIs prog (Zil N) [] 64 (ZoO N) [] f50 90 Zeq Zer Zes Zet Zeu [64] (fun x=>Zau N x.1 x.2.1 x.2.2):=by
 intro x;kernel_rfl
theorem Zpn{w0:World}(N:Nat)(hcs:∀ x∈Zil N,SA w0 x.1 x.2)(hf56:Zcx w0 N):ZcH w0 N:=by
 have i0:AllOK prog w0 [] 64 (ZhJ N):=Zaf (ZaL hf56 (by kernel_rfl) rfl) Za0
 exact ZaI hcs (Zah _ _) i0 func50 (by kernel_rfl) (by kernel_rfl) (fun w _ _=>Zae _) (by kernel_rfl) (Zpm N)
theorem ZiT{w0:World}(N:Nat):ZcH w0 N:=
 Zpn N Zax (Zij N)
def Zev:Ag ((Unit×Int)):=(.cons (.lit (.ptr 64 [] 37)) (.one (.int .i64)))
def Zew:Ent (Unit):=.nil
def Zex:Ent (((Nat×Int×Int)×(Nat×LI))):=(.cons 64 (.agg (.cons (.gsw 65 5) (.cons (.int .i64) (.one (.int .i64))))) (.one 65 (.lst .u8)))
def Zey:Pt (List (Int)):=(.dvw 66 5 (.tc (.int .u8)))
def Zez:Ent (((Nat×Int×Int)×Unit×(Nat×LI))):=(.cons 64 (.agg (.cons (.gsw 65 5) (.cons (.int .i64) (.one (.int .i64))))) (.cons 66 (.lit (.dc (.tc (.int .u8)) [])) (.one 65 (.lst .u8))))
abbrev Zim(N:Nat)(c:Nat):Inl:=Inl.ct prog c 64 90 Zev Zew Zex Zey Zez [64] (fun x=>ZaJ N x.1 x.2.1 x.2.2)
abbrev ZcI(w0:World)(N:Nat):Prop:=SoundIo prog w0 17 64 90 Zev Zew Zex Zey Zez [64] (fun x=>ZaJ N x.1 x.2.1 x.2.2)
def Zin(N:Nat):List (FuncId×Ct):=[(4294967295,fzCt)]
abbrev ZhK(N:Nat):List (FuncId×Inl):=((50,(Zik N 64))::[])
abbrev ZhL(N:Nat):List (FuncId×Inl):=((12,(Zck 64))::(ZhK N))
abbrev ZoP(N:Nat):List (FuncId×Inl):=(ZhL N)
theorem Zpo(N:Nat):IoRunIs prog (Zin N) [] 64 (ZoP N) [] f17 90 Zev Zew Zex Zey Zez [64] (fun x=>ZaJ N x.1 x.2.1 x.2.2):=by
 intro x;kernel_rfl
theorem Zpp{w0:World}(N:Nat)(hcs:∀ x∈Zin N,SA w0 x.1 x.2)(hf50:ZcH w0 N)(hf12:Zbs w0):ZcI w0 N:=by
 have i0:AllOK prog w0 [] 64 (ZhK N):=Zaf (ZaL hf50 (by kernel_rfl) rfl) Za0
 have i1:AllOK prog w0 [] 64 (ZhL N):=Zaf (ZaL hf12 (by kernel_rfl) rfl) i0
 exact ZaI hcs (Zah _ _) i1 func17 (by kernel_rfl) (by kernel_rfl) (fun w _ _=>Zae _) (by kernel_rfl) (Zpo N)
theorem ZiU{w0:World}(N:Nat):ZcI w0 N:=
 Zpp N (cs_fz Zax) (ZiT N) (Zcr)
def Ze1:Ag ((Unit×Int)):=(.cons (.lit (.ptr 64 [] 37)) (.one (.int .i64)))
def Ze2:Ent (Unit):=.nil
def Ze3:Ent (((Nat×Int×Int)×(Nat×LI))):=(.cons 64 (.agg (.cons (.gsw 65 5) (.cons (.int .i64) (.one (.int .i64))))) (.one 65 (.lst .u8)))
def Ze4:Pt (Int):=(.int .i64)
def Ze5:Ent (((Nat×Int×Int)×(Nat×LI))):=(.cons 64 (.agg (.cons (.gsw 65 5) (.cons (.int .i64) (.one (.int .i64))))) (.one 65 (.lst .u8)))
abbrev ZeA(w0:World)(N:Nat):Prop:=SoundIo prog w0 78 64 90 Ze1 Ze2 Ze3 Ze4 Ze5 [64] (fun x=>ZaU N x.1 x.2.1 x.2.2)
def ZiV(N:Nat):List (FuncId×Ct):=[]
abbrev Zio(N:Nat):List (FuncId×Inl):=((50,(Zik N 64))::[])
abbrev Zpq(N:Nat):List (FuncId×Inl):=(Zio N)
theorem ZqQ(N:Nat):IoRunIs prog (ZiV N) [] 64 (Zpq N) [] f78 90 Ze1 Ze2 Ze3 Ze4 Ze5 [64] (fun x=>ZaU N x.1 x.2.1 x.2.2):=by
 intro x;kernel_rfl
theorem ZqR{w0:World}(N:Nat)(hcs:∀ x∈ZiV N,SA w0 x.1 x.2)(hf50:ZcH w0 N):ZeA w0 N:=by
 have i0:AllOK prog w0 [] 64 (Zio N):=Zaf (ZaL hf50 (by kernel_rfl) rfl) Za0
 exact ZaI hcs (Zah _ _) i0 func78 (by kernel_rfl) (by kernel_rfl) (fun w _ _=>Zae _) (by kernel_rfl) (ZqQ N)
theorem ZqS{w0:World}(N:Nat):ZeA w0 N:=
 ZqR N Zax (ZiT N)
def Zkc:Ag ((Unit×Unit)):=(.cons (.lit (.ptr 64 [] 42)) (.one (.lit (.ptr 65 [] 3))))
def Zkd:Ent ((Nat×LI)):=(.one 32 (.lst .u8))
def Zke:Ent (((Bool×(Nat×Nat×Nat)×Int)×Int)):=(.cons 64 (.agg (.cons .bool (.cons (.gpw 32 5) (.one (.int .i64))))) (.one 65 (.int .i64)))
def Zkf:Pt (List (Int)):=(.dvw 66 5 (.tc (.int .u8)))
def Zkg:Ent (((Bool×(Nat×Nat×Nat)×Int)×Int×Unit)):=(.cons 64 (.agg (.cons .bool (.cons (.gpw 32 5) (.one (.int .i64))))) (.cons 65 (.int .i64) (.one 66 (.lit (.dc (.tc (.int .u8)) [])))))
abbrev Zjm(w0:World):Prop:=SoundIo prog w0 77 64 90 Zkc Zkd Zke Zkf Zkg [32,64,65] (fun x=>ZgO x.1 x.2.1 x.2.2)
def ZoQ:List (FuncId×Ct):=[]
abbrev ZnB:List (FuncId×Inl):=((16,(ZlK 64))::[])
abbrev ZvO:List (FuncId×Inl):=(ZnB)
theorem Zw0:IoRunIs prog (ZoQ) [] 64 (ZvO) [] f77 90 Zkc Zkd Zke Zkf Zkg [32,64,65] (fun x=>ZgO x.1 x.2.1 x.2.2):=by
 intro x;kernel_rfl
theorem Zw1{w0:World}(hcs:∀ x∈ZoQ,SA w0 x.1 x.2)(hf16:ZdM w0):Zjm w0:=by
 have i0:AllOK prog w0 [] 64 (ZnB):=Zaf (ZaL hf16 (by kernel_rfl) rfl) Za0
 exact ZaI hcs (Zah _ _) i0 func77 (by kernel_rfl) (by kernel_rfl) (fun w _ _=>Zae _) (by kernel_rfl) (Zw0)
theorem Zw2{w0:World}:Zjm w0:=
 Zw1 Zax (ZmI)
def Zkh:Ag (Unit):=(.one (.lit (.ptr 64 [] 42)))
def Zki:Ent ((Nat×LI)):=(.one 32 (.lst .u8))
def Zkj:Ent ((Bool×(Nat×Nat×Nat)×Int)):=(.one 64 (.agg (.cons .bool (.cons (.gpw 32 5) (.one (.int .i64))))))
def Zkk:Pt (LI):=(.ints .u64 4)
def Zkl:Ent ((Bool×(Nat×Nat×Nat)×Int)):=(.one 64 (.agg (.cons .bool (.cons (.gpw 32 5) (.one (.int .i64))))))
abbrev Zjn(w0:World)(N:Nat):Prop:=SoundIo prog w0 80 64 89 Zkh Zki Zkj Zkk Zkl [32,64] (fun x=>ZgP N x.1 x.2.1 x.2.2)
def ZoR(N:Nat):List (FuncId×Ct):=[]
abbrev ZnC(N:Nat):List (FuncId×Inl):=((22,(Zld N 64))::[])
abbrev ZvP(N:Nat):List (FuncId×Inl):=(ZnC N)
theorem Zw3(N:Nat):IoRunIs prog (ZoR N) [] 64 (ZvP N) [] f80 89 Zkh Zki Zkj Zkk Zkl [32,64] (fun x=>ZgP N x.1 x.2.1 x.2.2):=by
 intro x;kernel_rfl
theorem Zw4{w0:World}(N:Nat)(hcs:∀ x∈ZoR N,SA w0 x.1 x.2)(hf22:Zdf w0 N):Zjn w0 N:=by
 have i0:AllOK prog w0 [] 64 (ZnC N):=Zaf (ZaL hf22 (by kernel_rfl) rfl) Za0
 exact ZaI hcs (Zah _ _) i0 func80 (by kernel_rfl) (by kernel_rfl) (fun w _ _=>Zae _) (by kernel_rfl) (Zw3 N)
theorem Zw5{w0:World}(N:Nat)(G:Gs w0):Zjn w0 N:=
 Zw4 N Zax (ZlM N G)
def Zjo:Ag ((Unit×Int×Unit)):=(.cons (.lit (.ptr 64 [] 42)) (.cons (.int .i64) (.one (.lit (.clo 77 [(.ptr 65 [] 3)])))))
def Zjp:Ent ((Nat×LI)):=(.one 32 (.lst .u8))
def Zjq:Ent (((Bool×(Nat×Nat×Nat)×Int)×Int)):=(.cons 64 (.agg (.cons .bool (.cons (.gpw 32 5) (.one (.int .i64))))) (.one 65 (.int .i64)))
def Zjr:Pt (List (List (Int))):=(.dvw 66 22 (.row (.tc (.int .u8)) 5))
def Zjs:Ent (((Bool×(Nat×Nat×Nat)×Int)×Int×Unit)):=(.cons 64 (.agg (.cons .bool (.cons (.gpw 32 5) (.one (.int .i64))))) (.cons 65 (.int .i64) (.one 66 (.lit (.dc (.row (.tc (.int .u8)) 5) [])))))
abbrev Zip(w0:World)(N:Nat):Prop:=SoundIo prog w0 76 64 90 Zjo Zjp Zjq Zjr Zjs [32,64,65] (fun x=>Zb3 N x.1 x.2.1 x.2.2)
def ZdF(N:Nat):List (FuncId×Ct):=[]
abbrev ZmP(N:Nat):List (FuncId×Inl):=((47,(ZaP 64))::[])
abbrev ZmQ(N:Nat):List (FuncId×Inl):=((23,(ZaO 64))::(ZmP N))
abbrev ZmR(N:Nat):List (FuncId×Inl):=((48,(ZeF 64))::(ZmQ N))
abbrev Ziq(N:Nat):List (FuncId×Inl):=((77,(Inl.ct prog 64 64 90 Zkc Zkd Zke Zkf Zkg [32,64,65] (fun x=>ZgO x.1 x.2.1 x.2.2)))::(ZmR N))
abbrev ZmS(N:Nat):List (FuncId×Inl):=((49,(inlOf prog (ZdF N) [] 64 100 (Ziq N) f49))::(Ziq N))
abbrev Zjt(N:Nat):List (FuncId×Inl):=(ZmS N)
def Zhp:Fm ((Unit×Unit×Unit×Int×List (List (Int))×Int)) (((Nat×LI)×(Bool×(Nat×Nat×Nat)×Int)×Int×Unit)):=⟨(.cons 0 (.lit (.ptr 64 [] 42)) (.cons 2 (.lit (.clo 77 [(.ptr 65 [] 3)])) (.cons 6 (.lit .nils) (.cons 8 (.int .u64) (.cons 9 (.dvw 66 22 (.row (.tc (.int .u8)) 5)) (.one 10 (.int .u64))))))),(.cons 32 (.lst .u8) (.cons 64 (.agg (.cons .bool (.cons (.gpw 32 5) (.one (.int .i64))))) (.cons 65 (.int .i64) (.one 66 (.lit (.dc (.row (.tc (.int .u8)) 5) []))))))⟩
def Zhq:Fm ((Unit×List (List (Int)))) (((Nat×LI)×(Bool×(Nat×Nat×Nat)×Int)×Int×Unit)):=⟨(.cons 0 (.lit (.ptr 64 [] 42)) (.one 9 (.dvw 66 22 (.row (.tc (.int .u8)) 5)))),(.cons 32 (.lst .u8) (.cons 64 (.agg (.cons .bool (.cons (.gpw 32 5) (.one (.int .i64))))) (.cons 65 (.int .i64) (.one 66 (.lit (.dc (.row (.tc (.int .u8)) 5) []))))))⟩
def Zhr:Fm (Unit) (Unit):=⟨.nil,.nil⟩
def Zju(N:Nat):List (Nat×Lf):=[(0,loopCt Zhp Zhq Zhr 70 (ZaY N) N)]
theorem ZqT(N:Nat):StepIs prog (cxIn f76 (ZdF N) [] 64 (Zjt N)) (Zju N) f76 0 70 Zhp Zhq Zhr (ZaY N):=by
 intro v;kernel_rfl
theorem ZvQ(N:Nat):IoRunIs prog (ZdF N) [] 64 (Zjt N) (Zju N) f76 90 Zjo Zjp Zjq Zjr Zjs [32,64,65] (fun x=>Zb3 N x.1 x.2.1 x.2.2):=by
 intro x;kernel_rfl
theorem ZvR{w0:World}(N:Nat)(hcs:∀ x∈ZdF N,SA w0 x.1 x.2)(hf47:ZaE w0)(hf23:ZaD w0)(hf48:Zcf w0)(hf77:Zjm w0):Zip w0 N:=by
 have i0:AllOK prog w0 [] 64 (ZmP N):=Zaf (ZaL hf47 (by kernel_rfl) rfl) Za0
 have i1:AllOK prog w0 [] 64 (ZmQ N):=Zaf (ZaL hf23 (by kernel_rfl) rfl) i0
 have i2:AllOK prog w0 [] 64 (ZmR N):=Zaf (ZaL hf48 (by kernel_rfl) rfl) i1
 have i3:AllOK prog w0 [] 64 (Ziq N):=Zaf (ZaL hf77 (by kernel_rfl) rfl) i2
 have i4:AllOK prog w0 [] 64 (ZmS N):=Zaf (Zp6 hcs i3 func49 (by kernel_rfl) (by kernel_rfl)) i3
 have L0:∀ w:Base,w.g=w0→∀ ρk,LoopOKX prog (cxIn f76 (ZdF N) [] 64 (Zjt N)) w (Kp [32,64,65] ρk) 0 (.loop (loopBody f76 0)) (loopCt Zhp Zhq Zhr 70 (ZaY N) N):=
  Zfm hcs i4 (ls:=Zju N) (n:=100) (by kernel_rfl) (ZqT N) N fun w hw ρk=>ZaH (lp_no (by kernel_rfl) ZeI)
 exact ZaI hcs (Zah _ _) i4 func76 (by kernel_rfl) (by kernel_rfl) (fun w hw ρk=>ZaH (Zmu (L0 w hw ρk) (by kernel_rfl) ZeI)) (by kernel_rfl) (ZvQ N)
theorem ZvS{w0:World}(N:Nat):Zip w0 N:=
 ZvR N Zax (Za1) (ZaX) (Zfk) (Zw2)
def Zdv:Ag ((Unit×Int×Unit)):=(.cons (.lit (.ptr 64 [] 42)) (.cons (.int .i64) (.one (.lit (.clo 80 [])))))
def Zdw:Ent ((Nat×LI)):=(.one 32 (.lst .u8))
def Zdx:Ent ((Bool×(Nat×Nat×Nat)×Int)):=(.one 64 (.agg (.cons .bool (.cons (.gpw 32 5) (.one (.int .i64))))))
def Zdy:Pt (List (LI)):=(.dvw 65 50 (.tc (.ints .u64 4)))
def Zdz:Ent (((Bool×(Nat×Nat×Nat)×Int)×Unit)):=(.cons 64 (.agg (.cons .bool (.cons (.gpw 32 5) (.one (.int .i64))))) (.one 65 (.lit (.dc (.tc (.ints .u64 4)) []))))
abbrev Zc8(w0:World)(N:Nat):Prop:=SoundIo prog w0 79 64 89 Zdv Zdw Zdx Zdy Zdz [32,64] (fun x=>ZaN N x.1 x.2.1 x.2.2)
def ZbV(N:Nat):List (FuncId×Ct):=[(4294967295,fzCt)]
abbrev Zf0(N:Nat):List (FuncId×Inl):=((47,(ZaP 64))::[])
abbrev Zf1(N:Nat):List (FuncId×Inl):=((23,(ZaO 64))::(Zf0 N))
abbrev Zf2(N:Nat):List (FuncId×Inl):=((48,(ZeF 64))::(Zf1 N))
abbrev Zc9(N:Nat):List (FuncId×Inl):=((80,(Inl.ct prog 64 64 89 Zkh Zki Zkj Zkk Zkl [32,64] (fun x=>ZgP N x.1 x.2.1 x.2.2)))::(Zf2 N))
abbrev Zf3(N:Nat):List (FuncId×Inl):=((49,(inlOf prog (ZbV N) [] 64 100 (Zc9 N) f49))::(Zc9 N))
abbrev ZdA(N:Nat):List (FuncId×Inl):=(Zf3 N)
def Zc0:Fm ((Unit×Unit×Unit×Int×List (LI)×Int)) (((Nat×LI)×(Bool×(Nat×Nat×Nat)×Int)×Unit)):=⟨(.cons 0 (.lit (.ptr 64 [] 42)) (.cons 2 (.lit (.clo 80 [])) (.cons 6 (.lit .nils) (.cons 8 (.int .u64) (.cons 9 (.dvw 65 50 (.tc (.ints .u64 4))) (.one 10 (.int .u64))))))),(.cons 32 (.lst .u8) (.cons 64 (.agg (.cons .bool (.cons (.gpw 32 5) (.one (.int .i64))))) (.one 65 (.lit (.dc (.tc (.ints .u64 4)) [])))))⟩
def Zc1:Fm ((Unit×List (LI))) (((Nat×LI)×(Bool×(Nat×Nat×Nat)×Int)×Unit)):=⟨(.cons 0 (.lit (.ptr 64 [] 42)) (.one 9 (.dvw 65 50 (.tc (.ints .u64 4))))),(.cons 32 (.lst .u8) (.cons 64 (.agg (.cons .bool (.cons (.gpw 32 5) (.one (.int .i64))))) (.one 65 (.lit (.dc (.tc (.ints .u64 4)) [])))))⟩
def Zc2:Fm (Unit) (Unit):=⟨.nil,.nil⟩
def ZdB(N:Nat):List (Nat×Lf):=[(0,loopCt Zc0 Zc1 Zc2 69 (Zaw N) N)]
theorem ZkT(N:Nat):StepIs prog (cxIn f79 (ZbV N) [] 64 (ZdA N)) (ZdB N) f79 0 69 Zc0 Zc1 Zc2 (Zaw N):=by
 intro v;kernel_rfl
theorem ZnU(N:Nat):IoRunIs prog (ZbV N) [] 64 (ZdA N) (ZdB N) f79 89 Zdv Zdw Zdx Zdy Zdz [32,64] (fun x=>ZaN N x.1 x.2.1 x.2.2):=by
 intro x;kernel_rfl
theorem ZnV{w0:World}(N:Nat)(hcs:∀ x∈ZbV N,SA w0 x.1 x.2)(hf47:ZaE w0)(hf23:ZaD w0)(hf48:Zcf w0)(hf80:Zjn w0 N):Zc8 w0 N:=by
 have i0:AllOK prog w0 [] 64 (Zf0 N):=Zaf (ZaL hf47 (by kernel_rfl) rfl) Za0
 have i1:AllOK prog w0 [] 64 (Zf1 N):=Zaf (ZaL hf23 (by kernel_rfl) rfl) i0
 have i2:AllOK prog w0 [] 64 (Zf2 N):=Zaf (ZaL hf48 (by kernel_rfl) rfl) i1
 have i3:AllOK prog w0 [] 64 (Zc9 N):=Zaf (ZaL hf80 (by kernel_rfl) rfl) i2
 have i4:AllOK prog w0 [] 64 (Zf3 N):=Zaf (Zp6 hcs i3 func49 (by kernel_rfl) (by kernel_rfl)) i3
 have L0:∀ w:Base,w.g=w0→∀ ρk,LoopOKX prog (cxIn f79 (ZbV N) [] 64 (ZdA N)) w (Kp [32,64] ρk) 0 (.loop (loopBody f79 0)) (loopCt Zc0 Zc1 Zc2 69 (Zaw N) N):=
  Zfm hcs i4 (ls:=ZdB N) (n:=100) (by kernel_rfl) (ZkT N) N fun w hw ρk=>ZaH (lp_no (by kernel_rfl) ZeI)
 exact ZaI hcs (Zah _ _) i4 func79 (by kernel_rfl) (by kernel_rfl) (fun w hw ρk=>ZaH (Zmu (L0 w hw ρk) (by kernel_rfl) ZeI)) (by kernel_rfl) (ZnU N)
theorem ZnW{w0:World}(N:Nat)(G:Gs w0):Zc8 w0 N:=
 ZnV N (cs_fz Zax) (Za1) (ZaX) (Zfk) (Zw5 N G)
def Zkm:Ag ((Unit×Int×Unit)):=(.cons (.lit (.ptr 64 [] 42)) (.cons (.int .i64) (.one (.lit .nilfn))))
def Zkn:Ent ((Nat×LI)):=(.one 32 (.lst .u8))
def Zko:Ent ((Bool×(Nat×Nat×Nat)×Int)):=(.one 64 (.agg (.cons .bool (.cons (.gpw 32 5) (.one (.int .i64))))))
def Zkp:Pt (Unit):=(.lit .nils)
def Zkq:Ent ((Bool×(Nat×Nat×Nat)×Int)):=(.one 64 (.agg (.cons .bool (.cons (.gpw 32 5) (.one (.int .i64))))))
abbrev Zjv(w0:World):Prop:=SoundIo prog w0 24 64 89 Zkm Zkn Zko Zkp Zkq [32,64] (fun x=>Zcy x.1 x.2.1 x.2.2)
def ZoS:List (FuncId×Ct):=[]
abbrev ZnD:List (FuncId×Inl):=((47,(ZaP 64))::[])
abbrev ZnE:List (FuncId×Inl):=((23,(ZaO 64))::(ZnD))
abbrev ZvT:List (FuncId×Inl):=(ZnE)
theorem Zw6:IoRunIs prog (ZoS) [] 64 (ZvT) [] f24 89 Zkm Zkn Zko Zkp Zkq [32,64] (fun x=>Zcy x.1 x.2.1 x.2.2):=by
 intro x;kernel_rfl
theorem Zw7{w0:World}(hcs:∀ x∈ZoS,SA w0 x.1 x.2)(hf47:ZaE w0)(hf23:ZaD w0):Zjv w0:=by
 have i0:AllOK prog w0 [] 64 (ZnD):=Zaf (ZaL hf47 (by kernel_rfl) rfl) Za0
 have i1:AllOK prog w0 [] 64 (ZnE):=Zaf (ZaL hf23 (by kernel_rfl) rfl) i0
 exact ZaI hcs (Zah _ _) i1 func24 (by kernel_rfl) (by kernel_rfl) (fun w _ _=>Zae _) (by kernel_rfl) (Zw6)
theorem Zw8{w0:World}:Zjv w0:=
 Zw7 Zax (Za1) (ZaX)
def Zl8:Ag ((List (Int)×List (Int))):=(.cons (.dvw 32 5 (.tc (.int .u8))) (.one (.dvw 33 5 (.tc (.int .u8)))))
def Zl9:Ent (Unit):=.nil
def Zma:Ent (Unit):=.nil
def Zmb:Pt (Bool):=.bool
def Zmc:Ent (Unit):=.nil
abbrev ZrW(c:Nat):Inl:=Inl.ct prog c 64 88 Zl8 Zl9 Zma Zmb Zmc [] (fun x=>ZfF x.1 x.2.1 x.2.2)
abbrev ZhM(w0:World):Prop:=SoundIo prog w0 18 64 88 Zl8 Zl9 Zma Zmb Zmc [] (fun x=>ZfF x.1 x.2.1 x.2.2)
def ZrX:List (FuncId×Ct):=[]
abbrev ZrY:List (FuncId×Inl):=[]
theorem Zza:IoRunIs prog (ZrX) [] 64 (ZrY) [] f18 88 Zl8 Zl9 Zma Zmb Zmc [] (fun x=>ZfF x.1 x.2.1 x.2.2):=by
 intro x;kernel_rfl
theorem Zzb{w0:World}(hcs:∀ x∈ZrX,SA w0 x.1 x.2):ZhM w0:=by
 have ik:AllOK prog w0 [] 64 (ZrY):=Za0
 exact ZaI hcs (Zah _ _) ik func18 (by kernel_rfl) (by kernel_rfl) (fun w _ _=>Zae _) (by kernel_rfl) (Zza)
theorem ZsU{w0:World}:ZhM w0:=
 Zzb Zax
def Zmd:Ag ((Unit×Unit×(Int×Int×Int))):=(.cons (.lit (.ptr 64 [] 42)) (.cons (.lit (.ptr 65 [] 37)) (.one (.agg (.cons (.int .i64) (.cons (.int .i64) (.one (.int .i64))))))))
def Zme:Ent ((Nat×LI)):=(.one 32 (.lst .u8))
def Zmf:Ent (((Bool×(Nat×Nat×Nat)×Int)×(Nat×Int×Int)×(Nat×LI))):=(.cons 64 (.agg (.cons .bool (.cons (.gpw 32 5) (.one (.int .i64))))) (.cons 65 (.agg (.cons (.gsw 66 5) (.cons (.int .i64) (.one (.int .i64))))) (.one 66 (.lst .u8))))
def Zmg:Pt (Bool):=.bool
def Zmh:Ent (((Bool×(Nat×Nat×Nat)×Int)×(Nat×Int×Int)×(Nat×LI))):=(.cons 64 (.agg (.cons .bool (.cons (.gpw 32 5) (.one (.int .i64))))) (.cons 65 (.agg (.cons (.gsw 66 5) (.cons (.int .i64) (.one (.int .i64))))) (.one 66 (.lst .u8))))
abbrev Zlf(w0:World)(N:Nat):Prop:=SoundIo prog w0 45 64 91 Zmd Zme Zmf Zmg Zmh [32,64,65] (fun x=>ZcK N x.1 x.2.1 x.2.2)
def Zb4(N:Nat):List (FuncId×Ct):=[(4294967295,fzCt)]
abbrev Zp9(N:Nat):List (FuncId×Inl):=((76,(Inl.ct prog 64 64 90 Zjo Zjp Zjq Zjr Zjs [32,64,65] (fun x=>Zb3 N x.1 x.2.1 x.2.2)))::[])
abbrev Zqa(N:Nat):List (FuncId×Inl):=((78,(Inl.ct prog 64 64 90 Ze1 Ze2 Ze3 Ze4 Ze5 [64] (fun x=>ZaU N x.1 x.2.1 x.2.2)))::(Zp9 N))
abbrev Zqb(N:Nat):List (FuncId×Inl):=((17,(Zim N 64))::(Zqa N))
abbrev Zqc(N:Nat):List (FuncId×Inl):=((18,(ZrW 64))::(Zqb N))
abbrev Zqd(N:Nat):List (FuncId×Inl):=((79,(Inl.ct prog 64 64 89 Zdv Zdw Zdx Zdy Zdz [32,64] (fun x=>ZaN N x.1 x.2.1 x.2.2)))::(Zqc N))
abbrev Zqe(N:Nat):List (FuncId×Inl):=((37,(ZhC N 64))::(Zqd N))
abbrev Zqf(N:Nat):List (FuncId×Inl):=((24,(Inl.ct prog 64 64 89 Zkm Zkn Zko Zkp Zkq [32,64] (fun x=>Zcy x.1 x.2.1 x.2.2)))::(Zqe N))
abbrev Zqg(N:Nat):List (FuncId×Inl):=((13,(ZfH 64))::(Zqf N))
abbrev Zci(N:Nat):List (FuncId×Inl):=(Zqg N)
def Zkr:Fm ((Unit×Unit×Unit×List (List (Int))×Int×List (List (Int))×Int×Int)) (((Nat×LI)×(Bool×(Nat×Nat×Nat)×Int)×(Nat×Int×Int)×Unit×(Nat×LI)×Unit×Int)):=⟨(.cons 1 (.lit (.ptr 65 [] 37)) (.cons 6 (.lit (.bool false)) (.cons 7 (.lit (.ptr 97 [] 3)) (.cons 8 (.dvw 66 22 (.row (.tc (.int .u8)) 5)) (.cons 9 (.int .i64) (.cons 10 (.dvw 68 22 (.row (.tc (.int .u8)) 5)) (.cons 11 (.int .i64) (.one 12 (.int .i64))))))))),(.cons 32 (.lst .u8) (.cons 64 (.agg (.cons .bool (.cons (.gpw 32 5) (.one (.int .i64))))) (.cons 65 (.agg (.cons (.gsw 67 5) (.cons (.int .i64) (.one (.int .i64))))) (.cons 66 (.lit (.dc (.row (.tc (.int .u8)) 5) [])) (.cons 67 (.lst .u8) (.cons 68 (.lit (.dc (.row (.tc (.int .u8)) 5) [])) (.one 97 (.int .i64))))))))⟩
def Zks:Fm ((Unit×Unit×List (List (Int))×List (List (Int))×Int)) (((Nat×LI)×(Bool×(Nat×Nat×Nat)×Int)×(Nat×Int×Int)×Unit×(Nat×LI)×Unit×Int)):=⟨(.cons 1 (.lit (.ptr 65 [] 37)) (.cons 7 (.lit (.ptr 97 [] 3)) (.cons 8 (.dvw 66 22 (.row (.tc (.int .u8)) 5)) (.cons 10 (.dvw 68 22 (.row (.tc (.int .u8)) 5)) (.one 11 (.int .i64)))))),(.cons 32 (.lst .u8) (.cons 64 (.agg (.cons .bool (.cons (.gpw 32 5) (.one (.int .i64))))) (.cons 65 (.agg (.cons (.gsw 67 5) (.cons (.int .i64) (.one (.int .i64))))) (.cons 66 (.lit (.dc (.row (.tc (.int .u8)) 5) [])) (.cons 67 (.lst .u8) (.cons 68 (.lit (.dc (.row (.tc (.int .u8)) 5) [])) (.one 97 (.int .i64))))))))⟩
def Zkt:Fm (Unit) (Unit):=⟨.nil,.nil⟩
def Zku:Fm ((List (List (Int))×List (List (Int))×Int)) (((Nat×LI)×(Bool×(Nat×Nat×Nat)×Int)×(Nat×Int×Int)×Unit×(Nat×LI)×Unit)):=⟨(.cons 8 (.dvw 66 22 (.row (.tc (.int .u8)) 5)) (.cons 10 (.dvw 68 22 (.row (.tc (.int .u8)) 5)) (.one 13 (.int .i64)))),(.cons 32 (.lst .u8) (.cons 64 (.agg (.cons .bool (.cons (.gpw 32 5) (.one (.int .i64))))) (.cons 65 (.agg (.cons (.gsw 67 5) (.cons (.int .i64) (.one (.int .i64))))) (.cons 66 (.lit (.dc (.row (.tc (.int .u8)) 5) [])) (.cons 67 (.lst .u8) (.one 68 (.lit (.dc (.row (.tc (.int .u8)) 5) []))))))))⟩
def Zkv:Fm (Unit) (((Nat×LI)×(Bool×(Nat×Nat×Nat)×Int)×(Nat×Int×Int)×Unit×(Nat×LI))):=⟨.nil,(.cons 32 (.lst .u8) (.cons 64 (.agg (.cons .bool (.cons (.gpw 32 5) (.one (.int .i64))))) (.cons 65 (.agg (.cons (.gsw 67 5) (.cons (.int .i64) (.one (.int .i64))))) (.cons 66 (.lit (.dc (.row (.tc (.int .u8)) 5) [])) (.one 67 (.lst .u8))))))⟩
def Zkw:Fm (Unit) (((Nat×LI)×(Bool×(Nat×Nat×Nat)×Int)×(Nat×Int×Int)×Unit×(Nat×LI))):=⟨(.one 6 (.lit (.bool false))),(.cons 32 (.lst .u8) (.cons 64 (.agg (.cons .bool (.cons (.gpw 32 5) (.one (.int .i64))))) (.cons 65 (.agg (.cons (.gsw 67 5) (.cons (.int .i64) (.one (.int .i64))))) (.cons 66 (.lit (.dc (.row (.tc (.int .u8)) 5) [])) (.one 67 (.lst .u8))))))⟩
def Zkx:Fm ((Unit×Unit×List (LI)×Int×List (LI)×Int)) (((Nat×LI)×(Bool×(Nat×Nat×Nat)×Int)×(Nat×Int×Int)×Unit×(Nat×LI)×Unit)):=⟨(.cons 1 (.lit (.ptr 65 [] 37)) (.cons 6 (.lit (.bool false)) (.cons 14 (.dvw 66 50 (.tc (.ints .u64 4))) (.cons 15 (.int .i64) (.cons 16 (.dvw 68 70 (.tc (.ints .u64 4))) (.one 17 (.int .i64))))))),(.cons 32 (.lst .u8) (.cons 64 (.agg (.cons .bool (.cons (.gpw 32 5) (.one (.int .i64))))) (.cons 65 (.agg (.cons (.gsw 67 5) (.cons (.int .i64) (.one (.int .i64))))) (.cons 66 (.lit (.dc (.tc (.ints .u64 4)) [])) (.cons 67 (.lst .u8) (.one 68 (.lit (.dc (.tc (.ints .u64 4)) []))))))))⟩
def Zky:Fm ((Unit×List (LI)×List (LI))) (((Nat×LI)×(Bool×(Nat×Nat×Nat)×Int)×(Nat×Int×Int)×Unit×(Nat×LI)×Unit)):=⟨(.cons 1 (.lit (.ptr 65 [] 37)) (.cons 14 (.dvw 66 50 (.tc (.ints .u64 4))) (.one 16 (.dvw 68 70 (.tc (.ints .u64 4)))))),(.cons 32 (.lst .u8) (.cons 64 (.agg (.cons .bool (.cons (.gpw 32 5) (.one (.int .i64))))) (.cons 65 (.agg (.cons (.gsw 67 5) (.cons (.int .i64) (.one (.int .i64))))) (.cons 66 (.lit (.dc (.tc (.ints .u64 4)) [])) (.cons 67 (.lst .u8) (.one 68 (.lit (.dc (.tc (.ints .u64 4)) []))))))))⟩
def Zkz:Fm (Unit) (Unit):=⟨.nil,.nil⟩
def ZkA:Fm ((List (LI)×List (LI)×Int)) (((Nat×LI)×(Bool×(Nat×Nat×Nat)×Int)×(Nat×Int×Int)×Unit×(Nat×LI)×Unit)):=⟨(.cons 14 (.dvw 66 50 (.tc (.ints .u64 4))) (.cons 16 (.dvw 68 70 (.tc (.ints .u64 4))) (.one 18 (.int .i64)))),(.cons 32 (.lst .u8) (.cons 64 (.agg (.cons .bool (.cons (.gpw 32 5) (.one (.int .i64))))) (.cons 65 (.agg (.cons (.gsw 67 5) (.cons (.int .i64) (.one (.int .i64))))) (.cons 66 (.lit (.dc (.tc (.ints .u64 4)) [])) (.cons 67 (.lst .u8) (.one 68 (.lit (.dc (.tc (.ints .u64 4)) []))))))))⟩
def ZkB:Fm (Unit) (((Nat×LI)×(Bool×(Nat×Nat×Nat)×Int)×(Nat×Int×Int)×Unit×(Nat×LI))):=⟨.nil,(.cons 32 (.lst .u8) (.cons 64 (.agg (.cons .bool (.cons (.gpw 32 5) (.one (.int .i64))))) (.cons 65 (.agg (.cons (.gsw 67 5) (.cons (.int .i64) (.one (.int .i64))))) (.cons 66 (.lit (.dc (.tc (.ints .u64 4)) [])) (.one 67 (.lst .u8))))))⟩
def ZkC:Fm (Unit) (((Nat×LI)×(Bool×(Nat×Nat×Nat)×Int)×(Nat×Int×Int)×Unit×(Nat×LI))):=⟨(.one 6 (.lit (.bool false))),(.cons 32 (.lst .u8) (.cons 64 (.agg (.cons .bool (.cons (.gpw 32 5) (.one (.int .i64))))) (.cons 65 (.agg (.cons (.gsw 67 5) (.cons (.int .i64) (.one (.int .i64))))) (.cons 66 (.lit (.dc (.tc (.ints .u64 4)) [])) (.one 67 (.lst .u8))))))⟩
def Zcj(N:Nat):List (Nat×Lf):=[(1,loopCt Zkr Zks Zkt 102 (ZbN N) N),(3,loopCt Zku Zkv Zkw 72 (Zb5 N) N),(5,loopCt Zkx Zky Zkz 72 (ZbO N) N),(7,loopCt ZkA ZkB ZkC 72 (Zb6 N) N)]
theorem Ztc(N:Nat):StepIs prog (cxIn f45 (Zb4 N) [] 64 (Zci N)) (Zcj N) f45 1 102 Zkr Zks Zkt (ZbN N):=by
 intro v;kernel_rfl
theorem Ztd(N:Nat):StepIs prog (cxIn f45 (Zb4 N) [] 64 (Zci N)) (Zcj N) f45 3 72 Zku Zkv Zkw (Zb5 N):=by
 intro v;kernel_rfl
theorem Zte(N:Nat):StepIs prog (cxIn f45 (Zb4 N) [] 64 (Zci N)) (Zcj N) f45 5 72 Zkx Zky Zkz (ZbO N):=by
 intro v;kernel_rfl
theorem Ztf(N:Nat):StepIs prog (cxIn f45 (Zb4 N) [] 64 (Zci N)) (Zcj N) f45 7 72 ZkA ZkB ZkC (Zb6 N):=by
 intro v;kernel_rfl
theorem Zzc(N:Nat):IoRunIs prog (Zb4 N) [] 64 (Zci N) (Zcj N) f45 91 Zmd Zme Zmf Zmg Zmh [32,64,65] (fun x=>ZcK N x.1 x.2.1 x.2.2):=by
 intro x;kernel_rfl
theorem Zzd{w0:World}(N:Nat)(hcs:∀ x∈Zb4 N,SA w0 x.1 x.2)(hf76:Zip w0 N)(hf78:ZeA w0 N)(hf17:ZcI w0 N)(hf18:ZhM w0)(hf79:Zc8 w0 N)(hf37:Zcw w0 N)(hf24:Zjv w0)(hf13:ZcC w0):Zlf w0 N:=by
 have i0:AllOK prog w0 [] 64 (Zp9 N):=Zaf (ZaL hf76 (by kernel_rfl) rfl) Za0
 have i1:AllOK prog w0 [] 64 (Zqa N):=Zaf (ZaL hf78 (by kernel_rfl) rfl) i0
 have i2:AllOK prog w0 [] 64 (Zqb N):=Zaf (ZaL hf17 (by kernel_rfl) rfl) i1
 have i3:AllOK prog w0 [] 64 (Zqc N):=Zaf (ZaL hf18 (by kernel_rfl) rfl) i2
 have i4:AllOK prog w0 [] 64 (Zqd N):=Zaf (ZaL hf79 (by kernel_rfl) rfl) i3
 have i5:AllOK prog w0 [] 64 (Zqe N):=Zaf (ZaL hf37 (by kernel_rfl) rfl) i4
 have i6:AllOK prog w0 [] 64 (Zqf N):=Zaf (ZaL hf24 (by kernel_rfl) rfl) i5
 have i7:AllOK prog w0 [] 64 (Zqg N):=Zaf (ZaL hf13 (by kernel_rfl) rfl) i6
 have L1:∀ w:Base,w.g=w0→∀ ρk,LoopOKX prog (cxIn f45 (Zb4 N) [] 64 (Zci N)) w (Kp [32,64,65] ρk) 1 (.loop (loopBody f45 1)) (loopCt Zkr Zks Zkt 102 (ZbN N) N):=
  Zfm hcs i7 (ls:=Zcj N) (n:=100) (by kernel_rfl) (Ztc N) N fun w hw ρk=>ZaH (lp_no (by kernel_rfl) (lp_no (by kernel_rfl) (lp_no (by kernel_rfl) (lp_no (by kernel_rfl) ZeI))))
 have L3:∀ w:Base,w.g=w0→∀ ρk,LoopOKX prog (cxIn f45 (Zb4 N) [] 64 (Zci N)) w (Kp [32,64,65] ρk) 3 (.loop (loopBody f45 3)) (loopCt Zku Zkv Zkw 72 (Zb5 N) N):=
  Zfm hcs i7 (ls:=Zcj N) (n:=100) (by kernel_rfl) (Ztd N) N fun w hw ρk=>ZaH (lp_no (by kernel_rfl) (lp_no (by kernel_rfl) (lp_no (by kernel_rfl) (lp_no (by kernel_rfl) ZeI))))
 have L5:∀ w:Base,w.g=w0→∀ ρk,LoopOKX prog (cxIn f45 (Zb4 N) [] 64 (Zci N)) w (Kp [32,64,65] ρk) 5 (.loop (loopBody f45 5)) (loopCt Zkx Zky Zkz 72 (ZbO N) N):=
  Zfm hcs i7 (ls:=Zcj N) (n:=100) (by kernel_rfl) (Zte N) N fun w hw ρk=>ZaH (lp_no (by kernel_rfl) (lp_no (by kernel_rfl) (lp_no (by kernel_rfl) (lp_no (by kernel_rfl) ZeI))))
 have L7:∀ w:Base,w.g=w0→∀ ρk,LoopOKX prog (cxIn f45 (Zb4 N) [] 64 (Zci N)) w (Kp [32,64,65] ρk) 7 (.loop (loopBody f45 7)) (loopCt ZkA ZkB ZkC 72 (Zb6 N) N):=
  Zfm hcs i7 (ls:=Zcj N) (n:=100) (by kernel_rfl) (Ztf N) N fun w hw ρk=>ZaH (lp_no (by kernel_rfl) (lp_no (by kernel_rfl) (lp_no (by kernel_rfl) (lp_no (by kernel_rfl) ZeI))))
 exact ZaI hcs (Zah _ _) i7 func45 (by kernel_rfl) (by kernel_rfl) (fun w hw ρk=>ZaH (Zmu (L1 w hw ρk) (by kernel_rfl) (Zmu (L3 w hw ρk) (by kernel_rfl) (Zmu (L5 w hw ρk) (by kernel_rfl) (Zmu (L7 w hw ρk) (by kernel_rfl) ZeI))))) (by kernel_rfl) (Zzc N)
theorem Zze{w0:World}(N:Nat)(G:Gs w0):Zlf w0 N:=
 Zzd N (cs_fz Zax) (ZvS N) (ZqS N) (ZiU N) (ZsU) (ZnW N G) (Zie N) (Zw8) (Zgx)
abbrev ZnF:Ag ((Int×(LI×LI)×LI×Unit)):=(.one (.agg (.cons (.int .i64) (.cons (.agg (.one (.agg (.cons (.ints .i64 10) (.one (.ints .i64 10)))))) (.cons (.ints .u64 4) (.one (.lit .nils)))))))
abbrev ZnG:Pt (LI):=(.ints .u8 32)
def Zir(N:Nat):Ct:=fct ZnF ZnG fun x=>ZcQ N x
def ZmT(N:Nat):List (FuncId×Ct):=[(54,(ZeJ N)),(74,(Zfp N))]
theorem ZuM(N:Nat):RunIs prog (ZmT N) [] 0 [] f41 ZnF ZnG (fun x=>ZcQ N x):=by
 intro x;kernel_rfl
theorem ZuN{w0:World}(N:Nat)(hcs:∀ x∈ZmT N,SA w0 x.1 x.2):SA w0 41 (Zir N):=by
 exact Zak hcs (Zah _ _) func41 (by kernel_rfl) (by kernel_rfl) (S:=0) (fun w _=>Zae _) (fun _=>rfl) (ZuM N)
theorem ZuO{w0:World}(N:Nat)(G:Gs w0):SA w0 41 (Zir N):=
 ZuN N (Zag (ZqH N) (Zag (ZrE N G) Zax))
def Zmi:Ag ((Unit×Unit×(Int×Int×Int))):=(.cons (.lit (.ptr 64 [] 42)) (.cons (.lit (.ptr 65 [] 37)) (.one (.agg (.cons (.int .i64) (.cons (.int .i64) (.one (.int .i64))))))))
def Zmj:Ent ((Nat×LI)):=(.one 32 (.lst .u8))
def Zmk:Ent (((Bool×(Nat×Nat×Nat)×Int)×(Nat×Int×Int)×(Nat×LI))):=(.cons 64 (.agg (.cons .bool (.cons (.gpw 32 5) (.one (.int .i64))))) (.cons 65 (.agg (.cons (.gsw 66 5) (.cons (.int .i64) (.one (.int .i64))))) (.one 66 (.lst .u8))))
def Zml:Pt (Bool):=.bool
def Zmm:Ent (((Bool×(Nat×Nat×Nat)×Int)×(Nat×Int×Int)×(Nat×LI))):=(.cons 64 (.agg (.cons .bool (.cons (.gpw 32 5) (.one (.int .i64))))) (.cons 65 (.agg (.cons (.gsw 66 5) (.cons (.int .i64) (.one (.int .i64))))) (.one 66 (.lst .u8))))
abbrev Zlg(w0:World)(N:Nat):Prop:=SoundIo prog w0 10 64 91 Zmi Zmj Zmk Zml Zmm [32,64,65] (fun x=>Zbm N x.1 x.2.1 x.2.2)
def Zmn(N:Nat):List (FuncId×Ct):=[(41,(Zir N))]
abbrev Zqh(N:Nat):List (FuncId×Inl):=((20,(Inl.ct prog 64 64 89 Zgk Zgl Zgm Zgn Zgo [32,64] (fun x=>ZbK x.1 x.2.1 x.2.2)))::[])
abbrev Zqi(N:Nat):List (FuncId×Inl):=((35,(Inl.ct prog 64 64 90 Zd5 Zd6 Zd7 Zd8 Zd9 [64] (fun x=>Zba N x.1 x.2.1 x.2.2)))::(Zqh N))
abbrev Zqj(N:Nat):List (FuncId×Inl):=((16,(ZlK 64))::(Zqi N))
abbrev Zqk(N:Nat):List (FuncId×Inl):=((17,(Zim N 64))::(Zqj N))
abbrev Zql(N:Nat):List (FuncId×Inl):=((18,(ZrW 64))::(Zqk N))
abbrev Zqm(N:Nat):List (FuncId×Inl):=((21,(ZcB 64))::(Zql N))
abbrev Zqn(N:Nat):List (FuncId×Inl):=((36,(Zdt 64))::(Zqm N))
abbrev Zqo(N:Nat):List (FuncId×Inl):=((22,(Zld N 64))::(Zqn N))
abbrev Zqp(N:Nat):List (FuncId×Inl):=((37,(ZhC N 64))::(Zqo N))
abbrev Zqq(N:Nat):List (FuncId×Inl):=((38,(Inl.ct prog 64 64 89 ZdN ZdO ZdP ZdQ ZdR [32,64] (fun x=>Za8 N x.1 x.2.1 x.2.2)))::(Zqp N))
abbrev ZoT(N:Nat):List (FuncId×Inl):=((39,(Inl.ct prog 64 64 88 ZgY ZgZ Zg0 Zg1 Zg2 [] (fun x=>Zb9 N x.1 x.2.1 x.2.2)))::(Zqq N))
abbrev ZoU(N:Nat):List (FuncId×Inl):=((40,(Inl.ct prog 64 64 90 Zel Zem Zen Zeo Zep [64] (fun x=>Zao N x.1 x.2.1 x.2.2)))::(ZoT N))
abbrev ZoV(N:Nat):List (FuncId×Inl):=((26,(Inl.ct prog 64 64 89 Zfq Zfr Zfs Zft Zfu [32,64] (fun x=>Zbt N x.1 x.2.1 x.2.2)))::(ZoU N))
abbrev ZoW(N:Nat):List (FuncId×Inl):=((43,(Inl.ct prog 64 64 89 Zfv Zfw Zfx Zfy Zfz [32,64] (fun x=>ZbH x.1 x.2.1 x.2.2)))::(ZoV N))
abbrev ZoX(N:Nat):List (FuncId×Inl):=((11,(ZmJ 64))::(ZoW N))
abbrev ZoY(N:Nat):List (FuncId×Inl):=((12,(Zck 64))::(ZoX N))
abbrev ZoZ(N:Nat):List (FuncId×Inl):=((13,(ZfH 64))::(ZoY N))
abbrev Zo0(N:Nat):List (FuncId×Inl):=((14,(Znz 64))::(ZoZ N))
abbrev Zo1(N:Nat):List (FuncId×Inl):=((15,(ZjF 64))::(Zo0 N))
abbrev Zo2(N:Nat):List (FuncId×Inl):=((23,(ZaO 64))::(Zo1 N))
abbrev Zo3(N:Nat):List (FuncId×Inl):=((44,(Inl.ct prog 64 64 90 ZeW ZeX ZeY ZeZ Ze0 [64] (fun x=>Zch x.1 x.2.1 x.2.2)))::(Zo2 N))
abbrev ZkD(N:Nat):List (FuncId×Inl):=((45,(Inl.ct prog 64 64 91 Zmd Zme Zmf Zmg Zmh [32,64,65] (fun x=>ZcK N x.1 x.2.1 x.2.2)))::(Zo3 N))
abbrev Zo4(N:Nat):List (FuncId×Inl):=((42,(inlOf prog (Zmn N) [] 64 100 (ZkD N) f42))::(ZkD N))
abbrev Zx1(N:Nat):List (FuncId×Inl):=(Zo4 N)
theorem Zzf(N:Nat):IoRunIs prog (Zmn N) [] 64 (Zx1 N) [] f10 91 Zmi Zmj Zmk Zml Zmm [32,64,65] (fun x=>Zbm N x.1 x.2.1 x.2.2):=by
 intro x;kernel_rfl
theorem Zzg{w0:World}(N:Nat)(hcs:∀ x∈Zmn N,SA w0 x.1 x.2)(hf20:ZfQ w0)(hf35:Zdu w0 N)(hf16:ZdM w0)(hf17:ZcI w0 N)(hf18:ZhM w0)(hf21:ZbD w0)(hf36:ZbR w0)(hf22:Zdf w0 N)(hf37:Zcw w0 N)(hf38:Zdm w0 N)(hf39:Zf8 w0 N)(hf40:ZdZ w0 N)(hf26:ZeL w0 N)(hf43:ZeO w0)(hf11:ZeG w0)(hf12:Zbs w0)(hf13:ZcC w0)(hf14:Zfl w0)(hf15:ZcV w0)(hf23:ZaD w0)(hf44:Zek w0)(hf45:Zlf w0 N):Zlg w0 N:=by
 have i0:AllOK prog w0 [] 64 (Zqh N):=Zaf (ZaL hf20 (by kernel_rfl) rfl) Za0
 have i1:AllOK prog w0 [] 64 (Zqi N):=Zaf (ZaL hf35 (by kernel_rfl) rfl) i0
 have i2:AllOK prog w0 [] 64 (Zqj N):=Zaf (ZaL hf16 (by kernel_rfl) rfl) i1
 have i3:AllOK prog w0 [] 64 (Zqk N):=Zaf (ZaL hf17 (by kernel_rfl) rfl) i2
 have i4:AllOK prog w0 [] 64 (Zql N):=Zaf (ZaL hf18 (by kernel_rfl) rfl) i3
 have i5:AllOK prog w0 [] 64 (Zqm N):=Zaf (ZaL hf21 (by kernel_rfl) rfl) i4
 have i6:AllOK prog w0 [] 64 (Zqn N):=Zaf (ZaL hf36 (by kernel_rfl) rfl) i5
 have i7:AllOK prog w0 [] 64 (Zqo N):=Zaf (ZaL hf22 (by kernel_rfl) rfl) i6
 have i8:AllOK prog w0 [] 64 (Zqp N):=Zaf (ZaL hf37 (by kernel_rfl) rfl) i7
 have i9:AllOK prog w0 [] 64 (Zqq N):=Zaf (ZaL hf38 (by kernel_rfl) rfl) i8
 have i10:AllOK prog w0 [] 64 (ZoT N):=Zaf (ZaL hf39 (by kernel_rfl) rfl) i9
 have i11:AllOK prog w0 [] 64 (ZoU N):=Zaf (ZaL hf40 (by kernel_rfl) rfl) i10
 have i12:AllOK prog w0 [] 64 (ZoV N):=Zaf (ZaL hf26 (by kernel_rfl) rfl) i11
 have i13:AllOK prog w0 [] 64 (ZoW N):=Zaf (ZaL hf43 (by kernel_rfl) rfl) i12
 have i14:AllOK prog w0 [] 64 (ZoX N):=Zaf (ZaL hf11 (by kernel_rfl) rfl) i13
 have i15:AllOK prog w0 [] 64 (ZoY N):=Zaf (ZaL hf12 (by kernel_rfl) rfl) i14
 have i16:AllOK prog w0 [] 64 (ZoZ N):=Zaf (ZaL hf13 (by kernel_rfl) rfl) i15
 have i17:AllOK prog w0 [] 64 (Zo0 N):=Zaf (ZaL hf14 (by kernel_rfl) rfl) i16
 have i18:AllOK prog w0 [] 64 (Zo1 N):=Zaf (ZaL hf15 (by kernel_rfl) rfl) i17
 have i19:AllOK prog w0 [] 64 (Zo2 N):=Zaf (ZaL hf23 (by kernel_rfl) rfl) i18
 have i20:AllOK prog w0 [] 64 (Zo3 N):=Zaf (ZaL hf44 (by kernel_rfl) rfl) i19
 have i21:AllOK prog w0 [] 64 (ZkD N):=Zaf (ZaL hf45 (by kernel_rfl) rfl) i20
 have i22:AllOK prog w0 [] 64 (Zo4 N):=Zaf (Zp6 hcs i21 func42 (by kernel_rfl) (by kernel_rfl)) i21
 exact ZaI hcs (Zah _ _) i22 func10 (by kernel_rfl) (by kernel_rfl) (fun w _ _=>Zae _) (by kernel_rfl) (Zzf N)
theorem Zzh{w0:World}(N:Nat)(G:Gs w0):Zlg w0 N:=
 Zzg N (Zag (ZuO N G) Zax) (Zs8) (ZoN N) (ZmI) (ZiU N) (ZsU) (ZcP) (ZdT) (ZlM N G) (Zie N) (ZoE N G) (Ztw N G) (Zpl N G) (ZrN N G) (ZrQ) (Znx) (Zcr) (Zgx) (ZoF) (ZkO) (ZaX) (ZqO) (Zze N G)
def ZlN:Ag ((List (Int)×List ((Int×Int×Int)))):=(.cons (.dvw 32 5 (.tc (.int .u8))) (.one (.dvw 33 32 (.tc (.agg (.cons (.int .i64) (.cons (.int .i64) (.int .i64))))))))
def ZlO:Ent (Unit):=.nil
def ZlP:Ent (Unit):=.nil
def ZlQ:Pt (Bool):=.bool
def ZlR:Ent (Unit):=.nil
abbrev Zlh(w0:World)(N:Nat):Prop:=SoundIo prog w0 3 64 88 ZlN ZlO ZlP ZlQ ZlR [] (fun x=>Zgz N x.1 x.2.1 x.2.2)
def Zbv(N:Nat):List (FuncId×Ct):=[]
abbrev Zli(N:Nat):List (FuncId×Inl):=((7,(Inl.ct prog 64 64 88 Zl2 Zl3 Zl4 Zl5 Zl6 [32] (fun x=>ZgU x.1 x.2.1 x.2.2)))::[])
abbrev Zlj(N:Nat):List (FuncId×Inl):=((9,(Inl.ct prog 64 64 88 Zm4 Zm5 Zm6 Zm7 Zm8 [] (fun x=>ZiC x.1 x.2.1 x.2.2)))::(Zli N))
abbrev Zlk(N:Nat):List (FuncId×Inl):=((10,(Inl.ct prog 64 64 91 Zmi Zmj Zmk Zml Zmm [32,64,65] (fun x=>Zbm N x.1 x.2.1 x.2.2)))::(Zlj N))
abbrev Zll(N:Nat):List (FuncId×Inl):=((11,(ZmJ 64))::(Zlk N))
abbrev Zlm(N:Nat):List (FuncId×Inl):=((12,(Zck 64))::(Zll N))
abbrev Zln(N:Nat):List (FuncId×Inl):=((13,(ZfH 64))::(Zlm N))
abbrev Zlo(N:Nat):List (FuncId×Inl):=((14,(Znz 64))::(Zln N))
abbrev ZgA(N:Nat):List (FuncId×Inl):=((15,(ZjF 64))::(Zlo N))
abbrev ZgB(N:Nat):List (FuncId×Inl):=((6,(inlOf prog (Zbv N) [] 64 100 (ZgA N) f6))::(ZgA N))
abbrev ZgC(N:Nat):List (FuncId×Inl):=((18,(inlOf prog (Zbv N) [] 64 100 (ZgB N) f18))::(ZgB N))
abbrev ZkP(N:Nat):List (FuncId×Inl):=((8,(inlOf prog (Zbv N) [] 64 100 (ZgC N) f8))::(ZgC N))
abbrev ZcW(N:Nat):List (FuncId×Inl):=(ZkP N)
def ZfT:Fm ((List (Int)×List ((Int×Int×Int))×Unit×Nat×Unit×Int)) (((Nat×LI)×(Bool×(Nat×Nat×Nat)×Int)×(Nat×LI))):=⟨(.cons 0 (.dvw 32 5 (.tc (.int .u8))) (.cons 1 (.dvw 33 32 (.tc (.agg (.cons (.int .i64) (.cons (.int .i64) (.int .i64)))))) (.cons 4 (.lit (.bool false)) (.cons 5 (.gsw 96 5) (.cons 6 (.lit (.ptr 171 [] 42)) (.one 7 (.int .i64))))))),(.cons 96 (.lst .u8) (.cons 171 (.agg (.cons .bool (.cons (.gpw 172 5) (.one (.int .i64))))) (.one 172 (.lst .u8))))⟩
def ZfU:Fm ((List (Int)×List ((Int×Int×Int))×Unit)) (((Bool×(Nat×Nat×Nat)×Int)×(Nat×LI))):=⟨(.cons 0 (.dvw 32 5 (.tc (.int .u8))) (.cons 1 (.dvw 33 32 (.tc (.agg (.cons (.int .i64) (.cons (.int .i64) (.int .i64)))))) (.one 6 (.lit (.ptr 171 [] 42))))),(.cons 171 (.agg (.cons .bool (.cons (.gpw 172 5) (.one (.int .i64))))) (.one 172 (.lst .u8)))⟩
def ZfV:Fm (Unit) (Unit):=⟨.nil,.nil⟩
def ZfW:Fm ((List ((Int×Int×Int))×Unit×Unit×Int)) (((Bool×(Nat×Nat×Nat)×Int)×(Nat×LI)×(Nat×Int×Int)×(Nat×LI))):=⟨(.cons 1 (.dvw 33 32 (.tc (.agg (.cons (.int .i64) (.cons (.int .i64) (.int .i64)))))) (.cons 6 (.lit (.ptr 171 [] 42)) (.cons 8 (.lit (.ptr 244 [] 37)) (.one 9 (.int .i64))))),(.cons 171 (.agg (.cons .bool (.cons (.gpw 172 5) (.one (.int .i64))))) (.cons 172 (.lst .u8) (.cons 244 (.agg (.cons (.gsw 245 5) (.cons (.int .i64) (.one (.int .i64))))) (.one 245 (.lst .u8)))))⟩
def ZfX:Fm ((Unit×Unit)) (((Bool×(Nat×Nat×Nat)×Int)×(Nat×LI)×(Nat×Int×Int)×(Nat×LI))):=⟨(.cons 6 (.lit (.ptr 171 [] 42)) (.one 8 (.lit (.ptr 244 [] 37)))),(.cons 171 (.agg (.cons .bool (.cons (.gpw 172 5) (.one (.int .i64))))) (.cons 172 (.lst .u8) (.cons 244 (.agg (.cons (.gsw 245 5) (.cons (.int .i64) (.one (.int .i64))))) (.one 245 (.lst .u8)))))⟩
def ZfY:Fm (Unit) (Unit):=⟨(.one 4 (.lit (.bool false))),.nil⟩
def ZcX(N:Nat):List (Nat×Lf):=[(0,loopCt ZfT ZfU ZfV 177 (ZbI N) N),(2,loopCt ZfW ZfX ZfY 250 (ZbJ N) N)]
theorem Zo5(N:Nat):StepIs prog (cxIn f3 (Zbv N) [] 64 (ZcW N)) (ZcX N) f3 0 177 ZfT ZfU ZfV (ZbI N):=by
 intro v;kernel_rfl
theorem Zo6(N:Nat):StepIs prog (cxIn f3 (Zbv N) [] 64 (ZcW N)) (ZcX N) f3 2 250 ZfW ZfX ZfY (ZbJ N):=by
 intro v;kernel_rfl
theorem ZtW(N:Nat):IoRunIs prog (Zbv N) [] 64 (ZcW N) (ZcX N) f3 88 ZlN ZlO ZlP ZlQ ZlR [] (fun x=>Zgz N x.1 x.2.1 x.2.2):=by
 intro x;kernel_rfl
theorem ZtX{w0:World}(N:Nat)(hcs:∀ x∈Zbv N,SA w0 x.1 x.2)(hf7:Zle w0)(hf9:Zl7 w0)(hf10:Zlg w0 N)(hf11:ZeG w0)(hf12:Zbs w0)(hf13:ZcC w0)(hf14:Zfl w0)(hf15:ZcV w0):Zlh w0 N:=by
 have i0:AllOK prog w0 [] 64 (Zli N):=Zaf (ZaL hf7 (by kernel_rfl) rfl) Za0
 have i1:AllOK prog w0 [] 64 (Zlj N):=Zaf (ZaL hf9 (by kernel_rfl) rfl) i0
 have i2:AllOK prog w0 [] 64 (Zlk N):=Zaf (ZaL hf10 (by kernel_rfl) rfl) i1
 have i3:AllOK prog w0 [] 64 (Zll N):=Zaf (ZaL hf11 (by kernel_rfl) rfl) i2
 have i4:AllOK prog w0 [] 64 (Zlm N):=Zaf (ZaL hf12 (by kernel_rfl) rfl) i3
 have i5:AllOK prog w0 [] 64 (Zln N):=Zaf (ZaL hf13 (by kernel_rfl) rfl) i4
 have i6:AllOK prog w0 [] 64 (Zlo N):=Zaf (ZaL hf14 (by kernel_rfl) rfl) i5
 have i7:AllOK prog w0 [] 64 (ZgA N):=Zaf (ZaL hf15 (by kernel_rfl) rfl) i6
 have i8:AllOK prog w0 [] 64 (ZgB N):=Zaf (Zp6 hcs i7 func6 (by kernel_rfl) (by kernel_rfl)) i7
 have i9:AllOK prog w0 [] 64 (ZgC N):=Zaf (Zp6 hcs i8 func18 (by kernel_rfl) (by kernel_rfl)) i8
 have i10:AllOK prog w0 [] 64 (ZkP N):=Zaf (Zp6 hcs i9 func8 (by kernel_rfl) (by kernel_rfl)) i9
 have L0:∀ w:Base,w.g=w0→∀ ρk,LoopOKX prog (cxIn f3 (Zbv N) [] 64 (ZcW N)) w (Kp [] ρk) 0 (.loop (loopBody f3 0)) (loopCt ZfT ZfU ZfV 177 (ZbI N) N):=
  Zfm hcs i10 (ls:=ZcX N) (n:=100) (by kernel_rfl) (Zo5 N) N fun w hw ρk=>ZaH (lp_no (by kernel_rfl) (lp_no (by kernel_rfl) ZeI))
 have L2:∀ w:Base,w.g=w0→∀ ρk,LoopOKX prog (cxIn f3 (Zbv N) [] 64 (ZcW N)) w (Kp [] ρk) 2 (.loop (loopBody f3 2)) (loopCt ZfW ZfX ZfY 250 (ZbJ N) N):=
  Zfm hcs i10 (ls:=ZcX N) (n:=100) (by kernel_rfl) (Zo6 N) N fun w hw ρk=>ZaH (lp_no (by kernel_rfl) (lp_no (by kernel_rfl) ZeI))
 exact ZaI hcs (Zah _ _) i10 func3 (by kernel_rfl) (by kernel_rfl) (fun w hw ρk=>ZaH (Zmu (L0 w hw ρk) (by kernel_rfl) (Zmu (L2 w hw ρk) (by kernel_rfl) ZeI))) (by kernel_rfl) (ZtW N)
theorem Zti{w0:World}(N:Nat)(G:Gs w0):Zlh w0 N:=
 ZtX N Zax (Zy9) (ZzA) (Zzh N G) (Znx) (Zcr) (Zgx) (ZoF) (ZkO)
end
end Go.Vx
