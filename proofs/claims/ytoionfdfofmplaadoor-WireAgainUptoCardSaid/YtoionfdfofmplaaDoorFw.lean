import Derived.Test.YtoionfdfofmplaaDoorFp
import Derived.Test.YtoionfdfofmplaaDoorProg
import Derived.Test.YtoionfdfofmplaaDoorVxR2
import Derived.Test.YtoionfdfofmplaaDoorVxZ2
set_option autoImplicit false
set_option linter.unusedVariables false
set_option linter.unusedSimpArgs false
namespace Go.Vx
open Go Go.Proofs
abbrev GO (w0:World) (l:List Gv) : Prop := GlobOK Tryd.prog w0 l
abbrev SA (w0:World) (g:FuncId) (c:Ct) : Prop := SoundAt Tryd.prog w0 g c
def Zi2 : Ct := fct (.cons (.int .u64) (.cons (.int .u64) (.one (.int .u64)))) (.tup (.cons (.int .u64) (.one (.int .u64)))) fun x => Zee x.1 x.2.1 x.2.2
theorem Zmm {w0:World} : SA w0 59 Zi2 :=
 Zqa Tryd.func59 (by kernel_rfl) (by kernel_rfl) (by kernel_rfl) (by kernel_rfl)
def Zld : Ct := fct (.cons (.int .u64) (.cons (.int .u64) (.one (.int .u64)))) (.tup (.cons (.int .u64) (.one (.int .u64)))) fun x => Zef x.1 x.2.1 x.2.2
theorem Zo2 {w0:World} : SA w0 76 Zld :=
 Zqb Tryd.func76 (by kernel_rfl) (by kernel_rfl) (by kernel_rfl) (by kernel_rfl)
abbrev Zmn : Ag ((Int × Int)) := (.cons (.int .u64) (.one (.int .u64)))
abbrev Zmo : Pt ((Int × Int)) := (.tup (.cons (.int .u64) (.one (.int .u64))))
def Zi3 : Ct := tct Zmn Zmo fun x => ZfG x.1 x.2
def Zle : List (FuncId × Ct) := []
def Zoj : List Gv := []
noncomputable def Zok : List (Nat × Lf) := []
theorem Zo3 : RunIs Tryd.prog (Zle) Zoj 0 (Zok) Tryd.f58 Zmn Zmo (fun x => some (ZfG x.1 x.2)) := by
 intro x; kernel_rfl
theorem Zo4 {w0:World}  (hcs:∀ x ∈ Zle, SA w0 x.1 x.2) : SA w0 58 Zi3 := by
 exact ZjV (Za0 hcs (ZaP _ _) Tryd.func58 (by kernel_rfl) (by kernel_rfl) (S := 0) (fun w _ => ZaS _) (fun _ => rfl) (Zo3)) fun _ _ => rfl
theorem Zo5 {w0:World}  : SA w0 58 Zi3 :=
 Zo4 ZbN
abbrev ZkI : Ag ((LI × LI)) := (.cons (.ints .u64 4) (.one (.ints .u64 4)))
abbrev ZkJ : Pt ((LI × Int)) := (.tup (.cons (.ints .u64 4) (.one (.int .u64))))
def ZfT : Ct := fct ZkI ZkJ fun x => ZfH x.1 x.2
def ZjW : List (FuncId × Ct) := [(76, Zld)]
def ZmR : List Gv := []
noncomputable def ZmS : List (Nat × Lf) := []
theorem ZnL : RunIs Tryd.prog (ZjW) ZmR 0 (ZmS) Tryd.f60 ZkI ZkJ (fun x => ZfH x.1 x.2) := by
 intro x; kernel_rfl
theorem ZnM {w0:World}  (hcs:∀ x ∈ ZjW, SA w0 x.1 x.2) : SA w0 60 ZfT := by
 exact Za0 hcs (ZaP _ _) Tryd.func60 (by kernel_rfl) (by kernel_rfl) (S := 0) (fun w _ => ZaS _) (fun _ => rfl) (ZnL)
theorem ZkK {w0:World}  : SA w0 60 ZfT :=
 ZnM (Zbw (Zo2) ZbN)
abbrev Zlf : Ag ((LI × LI)) := (.cons (.ints .u64 4) (.one (.ints .u64 4)))
abbrev Zlg : Pt ((LI × Int)) := (.tup (.cons (.ints .u64 4) (.one (.int .u64))))
def Zik : Ct := fct Zlf Zlg fun x => Zhx x.1 x.2
def ZkL : List (FuncId × Ct) := [(59, Zi2)]
def ZnN : List Gv := []
noncomputable def ZnO : List (Nat × Lf) := []
theorem Zol : RunIs Tryd.prog (ZkL) ZnN 0 (ZnO) Tryd.f61 Zlf Zlg (fun x => Zhx x.1 x.2) := by
 intro x; kernel_rfl
theorem Zom {w0:World}  (hcs:∀ x ∈ ZkL, SA w0 x.1 x.2) : SA w0 61 Zik := by
 exact Za0 hcs (ZaP _ _) Tryd.func61 (by kernel_rfl) (by kernel_rfl) (S := 0) (fun w _ => ZaS _) (fun _ => rfl) (Zol)
theorem Zon {w0:World}  : SA w0 61 Zik :=
 Zom (Zbw (Zmm) ZbN)
abbrev ZjX : Ag ((Int × LI × LI)) := (.cons (.int .u64) (.cons (.ints .u64 4) (.one (.ints .u64 4))))
abbrev ZjY : Pt (LI) := (.ints .u64 4)
def Zfq : Ct := tct ZjX ZjY fun x => Zdf x.1 x.2.1 x.2.2
def Zjy : List (FuncId × Ct) := []
def Zmx : List Gv := []
noncomputable def Zmy : List (Nat × Lf) := []
theorem ZmT : RunIs Tryd.prog (Zjy) Zmx 0 (Zmy) Tryd.f63 ZjX ZjY (fun x => some (Zdf x.1 x.2.1 x.2.2)) := by
 intro x; kernel_rfl
theorem ZmU {w0:World}  (hcs:∀ x ∈ Zjy, SA w0 x.1 x.2) : SA w0 63 Zfq := by
 exact ZjV (Za0 hcs (ZaP _ _) Tryd.func63 (by kernel_rfl) (by kernel_rfl) (S := 0) (fun w _ => ZaS _) (fun _ => rfl) (ZmT)) fun _ _ => rfl
theorem ZjZ {w0:World}  : SA w0 63 Zfq :=
 ZmU ZbN
abbrev ZkM : Ag (LI) := (.one (.ints .u64 4))
abbrev ZkN : Pt (LI) := (.ints .u64 4)
def Zhy : Ct := fct ZkM ZkN fun x => ZgU x
def Zj0 : List (FuncId × Ct) := [(60, ZfT), (63, Zfq)]
def Zbl : List Gv := [⟨0, 25, (.agg [(.ints .u64 4 [6346243789798364141, 1503914060200516822, 0, 1152921504606846976]), (.ints .u64 4 [15486807595281847581, 14334777244411350896, 18446744073709551614, 1152921504606846975]), (.ints .u64 4 [11819153939886771969, 14991950615390032711, 14910419812499177061, 259310039853996605]), (.ints .u64 4 [6346243789798364139, 1503914060200516822, 0, 1152921504606846976])])⟩]
noncomputable def ZmV : List (Nat × Lf) := []
theorem ZnP : RunIs Tryd.prog (Zj0) Zbl 0 (ZmV) Tryd.f62 ZkM ZkN (fun x => ZgU x) := by
 intro x; kernel_rfl
theorem ZnQ {w0:World}  (hcs:∀ x ∈ Zj0, SA w0 x.1 x.2) (hg:GO w0 Zbl) : SA w0 62 Zhy := by
 exact Za0 hcs hg Tryd.func62 (by kernel_rfl) (by kernel_rfl) (S := 0) (fun w _ => ZaS _) (fun _ => rfl) (ZnP)
theorem ZnR {w0:World}  (ZaB:GO w0 Zbl) : SA w0 62 Zhy :=
 ZnQ (Zbw (ZkK) (Zbw (ZjZ) ZbN)) ZaB
abbrev ZgV : Ag (LI) := (.one (.ints .u64 4))
abbrev ZgW : Pt (LI) := (.ints .u64 4)
def ZcX : Ct := fct ZgV ZgW fun x => Zbm x
def Zgp : List (FuncId × Ct) := [(58, Zi3), (59, Zi2), (60, ZfT), (61, Zik), (62, Zhy), (63, Zfq)]
def ZaL : List Gv := [⟨0, 25, (.agg [(.ints .u64 4 [6346243789798364141, 1503914060200516822, 0, 1152921504606846976]), (.ints .u64 4 [15486807595281847581, 14334777244411350896, 18446744073709551614, 1152921504606846975]), (.ints .u64 4 [11819153939886771969, 14991950615390032711, 14910419812499177061, 259310039853996605]), (.ints .u64 4 [6346243789798364139, 1503914060200516822, 0, 1152921504606846976])])⟩]
noncomputable def ZjG : List (Nat × Lf) := []
theorem Zj1 : RunIs Tryd.prog (Zgp) ZaL 0 (ZjG) Tryd.f49 ZgV ZgW (fun x => Zbm x) := by
 intro x; kernel_rfl
theorem Zj2 {w0:World}  (hcs:∀ x ∈ Zgp, SA w0 x.1 x.2) (hg:GO w0 ZaL) : SA w0 49 ZcX := by
 exact Za0 hcs hg Tryd.func49 (by kernel_rfl) (by kernel_rfl) (S := 0) (fun w _ => ZaS _) (fun _ => rfl) (Zj1)
theorem ZgX {w0:World}  (ZaB:GO w0 Zbl) (Zak:GO w0 ZaL) : SA w0 49 ZcX :=
 Zj2 (Zbw (Zo5) (Zbw (Zmm) (Zbw (ZkK) (Zbw (Zon) (Zbw (ZnR ZaB) (Zbw (ZjZ) ZbN)))))) Zak
abbrev Zgq : Ag (LI) := (.one (.ints .u64 4))
abbrev Zgr : Pt (LI) := (.ints .u8 32)
def ZdS (N:Nat) : Ct := fct Zgq Zgr fun x => Zam N x
def Zcy (N:Nat) : List (FuncId × Ct) := [(49, ZcX)]
def ZdT : List Gv := []
def Zdj : Fm ((Unit × Unit × Unit × Int)) ((LI × Unit × LI)) := ⟨(.cons 1 (.lit (.ptr 0 [] 24)) (.cons 2 (.lit (.ptr 1 [] 82)) (.cons 3 (.lit (.ptr 5 [] 82)) (.one 7 (.int .i64))))), (.cons 0 (.ints .u64 4) (.cons 1 (.lit (.ints .u8 32 [0, 0, 0, 0, 0, 0, 0, 0, 0, 0, 0, 0, 0, 0, 0, 0, 0, 0, 0, 0, 0, 0, 0, 0, 0, 0, 0, 0, 0, 0, 0, 0])) (.one 5 (.ints .u8 32))))⟩
def Zdk : Fm ((Unit × Unit)) ((Unit × LI)) := ⟨(.cons 2 (.lit (.ptr 1 [] 82)) (.one 3 (.lit (.ptr 5 [] 82)))), (.cons 1 (.lit (.ints .u8 32 [0, 0, 0, 0, 0, 0, 0, 0, 0, 0, 0, 0, 0, 0, 0, 0, 0, 0, 0, 0, 0, 0, 0, 0, 0, 0, 0, 0, 0, 0, 0, 0])) (.one 5 (.ints .u8 32)))⟩
def Zdl : Fm (Unit) (Unit) := ⟨.nil, .nil⟩
noncomputable def ZdU (N:Nat) : List (Nat × Lf) := [(0, loopCt Zdj Zdk Zdl 7 (ZbO N) N)]
theorem Zhn (N:Nat) : StepIs Tryd.prog (cxOf Tryd.f29 (Zcy N) ZdT 0) (ZdU N) Tryd.f29 0 7 Zdj Zdk Zdl (ZbO N) := by
 intro v; kernel_rfl
theorem ZjH (N:Nat) : RunIs Tryd.prog (Zcy N) ZdT 0 (ZdU N) Tryd.f29 Zgq Zgr (fun x => Zam N x) := by
 intro x; kernel_rfl
theorem ZjI {w0:World} (N:Nat)  (hcs:∀ x ∈ Zcy N, SA w0 x.1 x.2) : SA w0 29 (ZdS N) := by
 have L0 : ∀ w : Base, w.g = w0 → LoopOK Tryd.prog (cxOf Tryd.f29 (Zcy N) ZdT 0) w 0 (.loop (loopBody Tryd.f29 0)) (loopCt Zdj Zdk Zdl 7 (ZbO N) N) :=
  ZcJ hcs (ls := ZdU N) (n := 100) (by kernel_rfl) (Zhn N) N fun w hw => Zap (lp_no (by kernel_rfl) ZcK)
 exact Za0 hcs (ZaP _ _) Tryd.func29 (by kernel_rfl) (by kernel_rfl) (S := 0) (fun w hw => Zap (Zhk (L0 w hw) (by kernel_rfl) ZcK)) (fun _ => rfl) (ZjH N)
theorem ZjJ {w0:World} (N:Nat)  (ZaB:GO w0 Zbl) (Zak:GO w0 ZaL) : SA w0 29 (ZdS N) :=
 ZjI N (Zbw (ZgX ZaB Zak) ZbN)
abbrev Zh5 : Ag (LI) := (.one (.ints .u8 32))
abbrev Zh6 : Pt (LI) := (.ints .u64 4)
def Zft (N:Nat) : Ct := fct Zh5 Zh6 fun x => Zeb N x
def ZdV (N:Nat) : List (FuncId × Ct) := []
def Zfu : List Gv := []
def Zer : Fm ((Unit × Unit × LI × Int)) ((Unit × LI)) := ⟨(.cons 2 (.lit (.ptr 1 [] 24)) (.cons 3 (.lit (.ptr 2 [] 24)) (.cons 6 (.ints .u8 32) (.one 7 (.int .i64))))), (.cons 1 (.lit (.ints .u64 4 [0, 0, 0, 0])) (.one 2 (.ints .u64 4)))⟩
def Zes : Fm ((Unit × Unit)) ((Unit × LI)) := ⟨(.cons 2 (.lit (.ptr 1 [] 24)) (.one 3 (.lit (.ptr 2 [] 24)))), (.cons 1 (.lit (.ints .u64 4 [0, 0, 0, 0])) (.one 2 (.ints .u64 4)))⟩
def Zet : Fm (Unit) (Unit) := ⟨.nil, .nil⟩
noncomputable def Zfv (N:Nat) : List (Nat × Lf) := [(0, loopCt Zer Zes Zet 5 (ZcO N) N)]
theorem Ziy (N:Nat) : StepIs Tryd.prog (cxOf Tryd.f65 (ZdV N) Zfu 0) (Zfv N) Tryd.f65 0 5 Zer Zes Zet (ZcO N) := by
 intro v; kernel_rfl
theorem Zlh (N:Nat) : RunIs Tryd.prog (ZdV N) Zfu 0 (Zfv N) Tryd.f65 Zh5 Zh6 (fun x => Zeb N x) := by
 intro x; kernel_rfl
theorem Zli {w0:World} (N:Nat)  (hcs:∀ x ∈ ZdV N, SA w0 x.1 x.2) : SA w0 65 (Zft N) := by
 have L0 : ∀ w : Base, w.g = w0 → LoopOK Tryd.prog (cxOf Tryd.f65 (ZdV N) Zfu 0) w 0 (.loop (loopBody Tryd.f65 0)) (loopCt Zer Zes Zet 5 (ZcO N) N) :=
  ZcJ hcs (ls := Zfv N) (n := 100) (by kernel_rfl) (Ziy N) N fun w hw => Zap (lp_no (by kernel_rfl) ZcK)
 exact Za0 hcs (ZaP _ _) Tryd.func65 (by kernel_rfl) (by kernel_rfl) (S := 0) (fun w hw => Zap (Zhk (L0 w hw) (by kernel_rfl) ZcK)) (fun _ => rfl) (Zlh N)
theorem Zlj {w0:World} (N:Nat)  : SA w0 65 (Zft N) :=
 Zli N ZbN
abbrev Zj3 : Ag (LI) := (.one (.ints .u8 32))
abbrev Zj4 : Pt ((LI × Int)) := (.tup (.cons (.ints .u64 4) (.one (.int .i64))))
def Zfr (N:Nat) : Ct := fct Zj3 Zj4 fun x => ZbP N x
def Zjz (N:Nat) : List (FuncId × Ct) := [(49, ZcX), (65, (Zft N))]
def Zmz : List Gv := []
noncomputable def ZmA (N:Nat) : List (Nat × Lf) := []
theorem ZmW (N:Nat) : RunIs Tryd.prog (Zjz N) Zmz 0 (ZmA N) Tryd.f52 Zj3 Zj4 (fun x => ZbP N x) := by
 intro x; kernel_rfl
theorem ZmX {w0:World} (N:Nat)  (hcs:∀ x ∈ Zjz N, SA w0 x.1 x.2) : SA w0 52 (Zfr N) := by
 exact Za0 hcs (ZaP _ _) Tryd.func52 (by kernel_rfl) (by kernel_rfl) (S := 0) (fun w _ => ZaS _) (fun _ => rfl) (ZmW N)
theorem Zj5 {w0:World} (N:Nat)  (ZaB:GO w0 Zbl) (Zak:GO w0 ZaL) : SA w0 52 (Zfr N) :=
 ZmX N (Zbw (ZgX ZaB Zak) (Zbw (Zlj N) ZbN))
abbrev Zlk : Ag (Unit) := .nil
abbrev Zll : Pt (LI) := (.ints .u64 4)
def Zil : Ct := tct Zlk Zll fun x => Zbn
def ZkO : List (FuncId × Ct) := []
def ZnS : List Gv := []
noncomputable def ZnT : List (Nat × Lf) := []
theorem Zoo : RunIs Tryd.prog (ZkO) ZnS 0 (ZnT) Tryd.f77 Zlk Zll (fun x => some (Zbn)) := by
 intro x; kernel_rfl
theorem Zop {w0:World}  (hcs:∀ x ∈ ZkO, SA w0 x.1 x.2) : SA w0 77 Zil := by
 exact ZjV (Za0 hcs (ZaP _ _) Tryd.func77 (by kernel_rfl) (by kernel_rfl) (S := 0) (fun w _ => ZaS _) (fun _ => rfl) (Zoo)) fun _ _ => rfl
theorem Zoq {w0:World}  : SA w0 77 Zil :=
 Zop ZbN
abbrev Ziz : Ag ((LI × LI)) := (.cons (.ints .u64 4) (.one (.ints .u64 4)))
abbrev ZiA : Pt (Bool) := .bool
def ZfU : Ct := tct Ziz ZiA fun x => ZbQ x.1 x.2
def Zh7 : List (FuncId × Ct) := []
def Zlm : List Gv := []
noncomputable def Zln : List (Nat × Lf) := []
theorem ZlL : RunIs Tryd.prog (Zh7) Zlm 0 (Zln) Tryd.f80 Ziz ZiA (fun x => ZgB x.1 x.2) := by
 intro x; kernel_rfl
theorem ZlM {w0:World}  (hcs:∀ x ∈ Zh7, SA w0 x.1 x.2) : SA w0 80 ZfU := by
 exact ZjV (Za0 hcs (ZaP _ _) Tryd.func80 (by kernel_rfl) (by kernel_rfl) (S := 0) (fun w _ => ZaS _) (fun _ => rfl) (ZlL)) fun _ _ => ZkQ _ _
theorem ZlN {w0:World}  : SA w0 80 ZfU :=
 ZlM ZbN
abbrev ZjA : Ag ((LI × LI)) := (.cons (.ints .u64 4) (.one (.ints .u64 4)))
abbrev ZjB : Pt ((LI × Int)) := (.tup (.cons (.ints .u64 4) (.one (.int .u64))))
def ZgC (N:Nat) : Ct := fct ZjA ZjB fun x => Zfc N x.1 x.2
def ZeG (N:Nat) : List (FuncId × Ct) := []
def ZgD : List Gv := []
def Zfw : Fm ((Unit × Unit × Unit × Unit × Unit × Int × Int)) ((LI × LI × Unit × LI)) := ⟨(.cons 2 (.lit (.ptr 0 [] 58)) (.cons 3 (.lit (.ptr 1 [] 58)) (.cons 4 (.lit (.ptr 2 [] 58)) (.cons 5 (.lit (.int .u64 0)) (.cons 6 (.lit (.ptr 4 [] 58)) (.cons 7 (.int .u64) (.one 8 (.int .i64)))))))), (.cons 0 (.ints .u64 4) (.cons 1 (.ints .u64 4) (.cons 2 (.lit (.ints .u64 4 [0, 0, 0, 0])) (.one 4 (.ints .u64 4)))))⟩
def Zfx : Fm ((Unit × Unit × Int)) ((Unit × LI)) := ⟨(.cons 4 (.lit (.ptr 2 [] 58)) (.cons 6 (.lit (.ptr 4 [] 58)) (.one 7 (.int .u64)))), (.cons 2 (.lit (.ints .u64 4 [0, 0, 0, 0])) (.one 4 (.ints .u64 4)))⟩
def Zfy : Fm (Unit) (Unit) := ⟨.nil, .nil⟩
noncomputable def ZgE (N:Nat) : List (Nat × Lf) := [(0, loopCt Zfw Zfx Zfy 7 (ZbB N) N)]
theorem ZjK (N:Nat) : StepIs Tryd.prog (cxOf Tryd.f79 (ZeG N) ZgD 0) (ZgE N) Tryd.f79 0 7 Zfw Zfx Zfy (ZbB N) := by
 intro v; kernel_rfl
theorem ZmB (N:Nat) : RunIs Tryd.prog (ZeG N) ZgD 0 (ZgE N) Tryd.f79 ZjA ZjB (fun x => Zfc N x.1 x.2) := by
 intro x; kernel_rfl
theorem ZmC {w0:World} (N:Nat)  (hcs:∀ x ∈ ZeG N, SA w0 x.1 x.2) : SA w0 79 (ZgC N) := by
 have L0 : ∀ w : Base, w.g = w0 → LoopOK Tryd.prog (cxOf Tryd.f79 (ZeG N) ZgD 0) w 0 (.loop (loopBody Tryd.f79 0)) (loopCt Zfw Zfx Zfy 7 (ZbB N) N) :=
  ZcJ hcs (ls := ZgE N) (n := 100) (by kernel_rfl) (ZjK N) N fun w hw => Zap (lp_no (by kernel_rfl) ZcK)
 exact Za0 hcs (ZaP _ _) Tryd.func79 (by kernel_rfl) (by kernel_rfl) (S := 0) (fun w hw => Zap (Zhk (L0 w hw) (by kernel_rfl) ZcK)) (fun _ => rfl) (ZmB N)
theorem ZmD {w0:World} (N:Nat)  : SA w0 79 (ZgC N) :=
 ZmC N ZbN
abbrev ZiB : Ag ((LI × LI)) := (.cons (.ints .u64 4) (.one (.ints .u64 4)))
abbrev ZiC : Pt ((LI × Int)) := (.tup (.cons (.ints .u64 4) (.one (.int .u64))))
def ZfV (N:Nat) : Ct := fct ZiB ZiC fun x => ZcP N x.1 x.2
def Zel (N:Nat) : List (FuncId × Ct) := []
def ZfW : List Gv := []
def ZeS : Fm ((Unit × Unit × Unit × Unit × Unit × Int × Int)) ((LI × LI × Unit × LI)) := ⟨(.cons 2 (.lit (.ptr 0 [] 58)) (.cons 3 (.lit (.ptr 1 [] 58)) (.cons 4 (.lit (.ptr 2 [] 58)) (.cons 5 (.lit (.int .u64 0)) (.cons 6 (.lit (.ptr 4 [] 58)) (.cons 7 (.int .u64) (.one 8 (.int .i64)))))))), (.cons 0 (.ints .u64 4) (.cons 1 (.ints .u64 4) (.cons 2 (.lit (.ints .u64 4 [0, 0, 0, 0])) (.one 4 (.ints .u64 4)))))⟩
def ZeT : Fm ((Unit × Unit × Int)) ((Unit × LI)) := ⟨(.cons 4 (.lit (.ptr 2 [] 58)) (.cons 6 (.lit (.ptr 4 [] 58)) (.one 7 (.int .u64)))), (.cons 2 (.lit (.ints .u64 4 [0, 0, 0, 0])) (.one 4 (.ints .u64 4)))⟩
def ZeU : Fm (Unit) (Unit) := ⟨.nil, .nil⟩
noncomputable def ZfX (N:Nat) : List (Nat × Lf) := [(0, loopCt ZeS ZeT ZeU 7 (Zbu N) N)]
theorem Zi4 (N:Nat) : StepIs Tryd.prog (cxOf Tryd.f78 (Zel N) ZfW 0) (ZfX N) Tryd.f78 0 7 ZeS ZeT ZeU (Zbu N) := by
 intro v; kernel_rfl
theorem ZlO (N:Nat) : RunIs Tryd.prog (Zel N) ZfW 0 (ZfX N) Tryd.f78 ZiB ZiC (fun x => ZcP N x.1 x.2) := by
 intro x; kernel_rfl
theorem ZlP {w0:World} (N:Nat)  (hcs:∀ x ∈ Zel N, SA w0 x.1 x.2) : SA w0 78 (ZfV N) := by
 have L0 : ∀ w : Base, w.g = w0 → LoopOK Tryd.prog (cxOf Tryd.f78 (Zel N) ZfW 0) w 0 (.loop (loopBody Tryd.f78 0)) (loopCt ZeS ZeT ZeU 7 (Zbu N) N) :=
  ZcJ hcs (ls := ZfX N) (n := 100) (by kernel_rfl) (Zi4 N) N fun w hw => Zap (lp_no (by kernel_rfl) ZcK)
 exact Za0 hcs (ZaP _ _) Tryd.func78 (by kernel_rfl) (by kernel_rfl) (S := 0) (fun w hw => Zap (Zhk (L0 w hw) (by kernel_rfl) ZcK)) (fun _ => rfl) (ZlO N)
theorem ZlQ {w0:World} (N:Nat)  : SA w0 78 (ZfV N) :=
 ZlP N ZbN
abbrev ZjC : Ag ((LI × Int)) := (.cons (.ints .u64 4) (.one (.int .u64)))
abbrev ZjD : Pt (LI) := (.ints .u64 4)
def ZgF (N:Nat) : Ct := fct ZjC ZjD fun x => Zfd N x.1 x.2
def ZiD (N:Nat) : List (FuncId × Ct) := [(77, Zil), (78, (ZfV N)), (79, (ZgC N)), (80, ZfU)]
def ZlR : List Gv := []
noncomputable def ZlS (N:Nat) : List (Nat × Lf) := []
theorem ZmE (N:Nat) : RunIs Tryd.prog (ZiD N) ZlR 0 (ZlS N) Tryd.f64 ZjC ZjD (fun x => Zfd N x.1 x.2) := by
 intro x; kernel_rfl
theorem ZmF {w0:World} (N:Nat)  (hcs:∀ x ∈ ZiD N, SA w0 x.1 x.2) : SA w0 64 (ZgF N) := by
 exact Za0 hcs (ZaP _ _) Tryd.func64 (by kernel_rfl) (by kernel_rfl) (S := 0) (fun w _ => ZaS _) (fun _ => rfl) (ZmE N)
theorem ZmG {w0:World} (N:Nat)  : SA w0 64 (ZgF N) :=
 ZmF N (Zbw (Zoq) (Zbw (ZlQ N) (Zbw (ZmD N) (Zbw (ZlN) ZbN))))
abbrev ZiE : Ag (((Nat × LI) × Unit)) := (.one (.tup (.cons (.lst .u64) (.one (.lit (.clo 22 []))))))
abbrev ZiF : Pt (LI) := (.ints .u64 4)
def ZfY (N:Nat) : Ct := fct ZiE ZiF fun x => ZfZ N x
def Zem (N:Nat) : List (FuncId × Ct) := [(64, (ZgF N))]
def Zf0 : List Gv := []
def ZeV : Fm ((Nat × Unit × Unit × Int)) (((Nat × LI) × Unit × LI)) := ⟨(.cons 0 (.slw 0 22) (.cons 2 (.lit (.ptr 1 [] 58)) (.cons 3 (.lit (.ptr 2 [] 58)) (.one 4 (.int .i64))))), (.cons 0 (.lst .u64) (.cons 1 (.lit (.ints .u64 4 [0, 0, 0, 0])) (.one 2 (.ints .u64 4))))⟩
def ZeW : Fm ((Unit × Unit)) ((Unit × LI)) := ⟨(.cons 2 (.lit (.ptr 1 [] 58)) (.one 3 (.lit (.ptr 2 [] 58)))), (.cons 1 (.lit (.ints .u64 4 [0, 0, 0, 0])) (.one 2 (.ints .u64 4)))⟩
def ZeX : Fm (Unit) (Unit) := ⟨.nil, .nil⟩
noncomputable def Zf1 (N:Nat) : List (Nat × Lf) := [(0, loopCt ZeV ZeW ZeX 7 (ZaV N) N)]
theorem Zi5 (N:Nat) : StepIs Tryd.prog (cxOf Tryd.f50 (Zem N) Zf0 1) (Zf1 N) Tryd.f50 0 7 ZeV ZeW ZeX (ZaV N) := by
 intro v; kernel_rfl
theorem ZlT (N:Nat) : RunIs Tryd.prog (Zem N) Zf0 1 (Zf1 N) Tryd.f50 ZiE ZiF (fun x => ZfZ N x) := by
 intro x; kernel_rfl
theorem ZlU {w0:World} (N:Nat)  (hcs:∀ x ∈ Zem N, SA w0 x.1 x.2) : SA w0 50 (ZfY N) := by
 have L0 : ∀ w : Base, w.g = w0 → LoopOK Tryd.prog (cxOf Tryd.f50 (Zem N) Zf0 1) w 0 (.loop (loopBody Tryd.f50 0)) (loopCt ZeV ZeW ZeX 7 (ZaV N) N) :=
  ZcJ hcs (ls := Zf1 N) (n := 100) (by kernel_rfl) (Zi5 N) N fun w hw => Zap (lp_no (by kernel_rfl) ZcK)
 exact Za0 hcs (ZaP _ _) Tryd.func50 (by kernel_rfl) (by kernel_rfl) (S := 1) (fun w hw => Zap (Zhk (L0 w hw) (by kernel_rfl) ZcK)) (fun _ => rfl) (ZlT N)
theorem ZlV {w0:World} (N:Nat)  : SA w0 50 (ZfY N) :=
 ZlU N (Zbw (ZmG N) ZbN)
abbrev ZiG : Ag (LI) := (.one (.ints .u64 4))
abbrev ZiH : Pt (LI) := (.ints .u64 4)
def Zf2 (N:Nat) : Ct := fct ZiG ZiH fun x => ZaI N x
def Zh8 (N:Nat) : List (FuncId × Ct) := [(50, (ZfY N))]
def Zlo : List Gv := []
noncomputable def Zlp (N:Nat) : List (Nat × Lf) := []
theorem ZlW (N:Nat) : RunIs Tryd.prog (Zh8 N) Zlo 0 (Zlp N) Tryd.f32 ZiG ZiH (fun x => ZaI N x) := by
 intro x; kernel_rfl
theorem ZlX {w0:World} (N:Nat)  (hcs:∀ x ∈ Zh8 N, SA w0 x.1 x.2) : SA w0 32 (Zf2 N) := by
 exact Za0 hcs (ZaP _ _) Tryd.func32 (by kernel_rfl) (by kernel_rfl) (S := 0) (fun w _ => ZaS _) (fun _ => rfl) (ZlW N)
theorem ZlY {w0:World} (N:Nat)  : SA w0 32 (Zf2 N) :=
 ZlX N (Zbw (ZlV N) ZbN)
abbrev Zfe : Ag (LI) := (.one (.ints .u64 4))
abbrev Zff : Pt (LI) := (.ints .u8 32)
def Zc1 (N:Nat) : Ct := fct Zfe Zff fun x => Zai N x
def Zb1 (N:Nat) : List (FuncId × Ct) := []
def Zc2 : List Gv := []
def Zcz : Fm ((Unit × Unit × Unit × Int)) ((LI × Unit × LI)) := ⟨(.cons 1 (.lit (.ptr 0 [] 58)) (.cons 2 (.lit (.ptr 1 [] 82)) (.cons 3 (.lit (.ptr 2 [] 82)) (.one 4 (.int .i64))))), (.cons 0 (.ints .u64 4) (.cons 1 (.lit (.ints .u8 32 [0, 0, 0, 0, 0, 0, 0, 0, 0, 0, 0, 0, 0, 0, 0, 0, 0, 0, 0, 0, 0, 0, 0, 0, 0, 0, 0, 0, 0, 0, 0, 0])) (.one 2 (.ints .u8 32))))⟩
def ZcA : Fm ((Unit × Unit)) ((Unit × LI)) := ⟨(.cons 2 (.lit (.ptr 1 [] 82)) (.one 3 (.lit (.ptr 2 [] 82)))), (.cons 1 (.lit (.ints .u8 32 [0, 0, 0, 0, 0, 0, 0, 0, 0, 0, 0, 0, 0, 0, 0, 0, 0, 0, 0, 0, 0, 0, 0, 0, 0, 0, 0, 0, 0, 0, 0, 0])) (.one 2 (.ints .u8 32)))⟩
def ZcB : Fm (Unit) (Unit) := ⟨.nil, .nil⟩
noncomputable def Zc3 (N:Nat) : List (Nat × Lf) := [(0, loopCt Zcz ZcA ZcB 4 (Zbs N) N)]
theorem ZgG (N:Nat) : StepIs Tryd.prog (cxOf Tryd.f41 (Zb1 N) Zc2 0) (Zc3 N) Tryd.f41 0 4 Zcz ZcA ZcB (Zbs N) := by
 intro v; kernel_rfl
theorem Zim (N:Nat) : RunIs Tryd.prog (Zb1 N) Zc2 0 (Zc3 N) Tryd.f41 Zfe Zff (fun x => Zai N x) := by
 intro x; kernel_rfl
theorem Zin {w0:World} (N:Nat)  (hcs:∀ x ∈ Zb1 N, SA w0 x.1 x.2) : SA w0 41 (Zc1 N) := by
 have L0 : ∀ w : Base, w.g = w0 → LoopOK Tryd.prog (cxOf Tryd.f41 (Zb1 N) Zc2 0) w 0 (.loop (loopBody Tryd.f41 0)) (loopCt Zcz ZcA ZcB 4 (Zbs N) N) :=
  ZcJ hcs (ls := Zc3 N) (n := 100) (by kernel_rfl) (ZgG N) N fun w hw => Zap (lp_no (by kernel_rfl) ZcK)
 exact Za0 hcs (ZaP _ _) Tryd.func41 (by kernel_rfl) (by kernel_rfl) (S := 0) (fun w hw => Zap (Zhk (L0 w hw) (by kernel_rfl) ZcK)) (fun _ => rfl) (Zim N)
theorem Zio {w0:World} (N:Nat)  : SA w0 41 (Zc1 N) :=
 Zin N ZbN
abbrev Zh9 : Ag (LI) := (.one (.ints .u64 4))
abbrev Zia : Pt ((Int × (LI × LI) × LI × Unit)) := (.agg (.cons (.int .i64) (.cons (.agg (.one (.agg (.cons (.ints .i64 10) (.one (.ints .i64 10)))))) (.cons (.ints .u64 4) (.one (.lit .nils))))))
def Zfz : Ct := tct Zh9 Zia fun x => Zag x
def Zhz : List (FuncId × Ct) := []
def ZkR : List Gv := []
noncomputable def ZkS : List (Nat × Lf) := []
theorem Zlq : RunIs Tryd.prog (Zhz) ZkR 0 (ZkS) Tryd.f31 Zh9 Zia (fun x => some (Zag x)) := by
 intro x; kernel_rfl
theorem Zlr {w0:World}  (hcs:∀ x ∈ Zhz, SA w0 x.1 x.2) : SA w0 31 Zfz := by
 exact ZjV (Za0 hcs (ZaP _ _) Tryd.func31 (by kernel_rfl) (by kernel_rfl) (S := 0) (fun w _ => ZaS _) (fun _ => rfl) (Zlq)) fun _ _ => rfl
theorem Zls {w0:World}  : SA w0 31 Zfz :=
 Zlr ZbN
abbrev ZhA : Ag (((Nat × LI) × Unit)) := (.one (.tup (.cons (.lst .u8) (.one (.lit (.clo 5 []))))))
abbrev ZcQ : Pt (((Nat × LI) × Unit)) := (.tup (.cons (.lst .u8) (.one (.lit (.clo 5 [])))))
def Zen : Ct := fct ZhA ZcQ fun x => Zbx x
theorem Zho : run Tryd.prog (fun _ => none) (glAt [] 0) 1 [] (fun _ => none) 100 Tryd.f44 [.nils] none ZcQ.get = Zbx ((0, []), ()) := by
 kernel_rfl
theorem Zhp : ∀ m l, run Tryd.prog (fun _ => none) (glAt [] 0) 1 [(0, .ints .u8 m l)] (fun _ => none) 100 Tryd.f44 [.gp 0 0 m 5 true 0] none ZcQ.get = Zbx ((m, l), ()) := by
 intro m l; kernel_rfl
theorem ZhB {w0:World} : SA w0 44 Zen :=
 fn_nil (n := 100) Tryd.func44 (by kernel_rfl) (by kernel_rfl) Zho Zhp
def ZdW : Ag (Unit) := (.one (.lit (.ptr 32 [] 104)))
def ZdX : Ent (((Bool × (Nat × Nat × Nat) × Int) × (Nat × LI))) := (.cons 32 (.agg (.cons .bool (.cons (.gpw 33 5) (.one (.int .i64))))) (.one 33 (.lst .u8)))
def ZdY : Ent (Unit) := .nil
def ZdZ : Pt (Bool) := .bool
def Zd0 : Ent (Unit) := .nil
abbrev Zbb (w0:World) : Prop := SoundIo Tryd.prog w0 57 64 88 ZdW ZdX ZdY ZdZ Zd0 [32, 33] (fun x => Zdc x.1 x.2.1 x.2.2)
def ZfA : List (FuncId × Ct) := []
def ZhC : List Gv := []
noncomputable abbrev ZhD : List (FuncId × Inl) := []
theorem Zj6 {w0:World} (hcs:∀ x ∈ ZfA, SA w0 x.1 x.2) : AllOK Tryd.prog w0 ZhC 64 (ZhD) := Zcg
noncomputable def ZkT : List (Nat × Lf) := []
theorem Zlt : IoRunIs Tryd.prog (ZfA) ZhC 64 (ZhD) (ZkT) Tryd.f57 88 ZdW ZdX ZdY ZdZ Zd0 [32, 33] (fun x => Zdc x.1 x.2.1 x.2.2) := by
 intro x; kernel_rfl
theorem Zlu {w0:World}  (hcs:∀ x ∈ ZfA, SA w0 x.1 x.2) : Zbb w0 := by
 exact Zb2 hcs (ZaP _ _) (Zj6 hcs) Tryd.func57 (by kernel_rfl) (by kernel_rfl) (fun w _ _ => ZaS _) (by kernel_rfl) (Zlt)
theorem Zib {w0:World}  : Zbb w0 :=
 Zlu ZbN
def Zbc : Ag (Unit) := (.one (.lit (.ptr 32 [] 104)))
def Zbd : Ent (((Bool × (Nat × Nat × Nat) × Int) × (Nat × LI))) := (.cons 32 (.agg (.cons .bool (.cons (.gpw 33 5) (.one (.int .i64))))) (.one 33 (.lst .u8)))
def Zbe : Ent (Unit) := .nil
def Zbf : Pt (Bool) := .bool
def Zbg : Ent (Unit) := .nil
abbrev Zab (w0:World) : Prop := SoundIo Tryd.prog w0 45 64 88 Zbc Zbd Zbe Zbf Zbg [32, 33] (fun x => ZaC x.1 x.2.1 x.2.2)
def ZcY : List (FuncId × Ct) := []
def Zei : List Gv := []
noncomputable abbrev Zf3 : List (FuncId × Inl) := ((57, (Inl.ct Tryd.prog 64 64 88 ZdW ZdX ZdY ZdZ Zd0 [32, 33] (fun x => Zdc x.1 x.2.1 x.2.2))) :: [])
theorem Zip {w0:World} (hcs:∀ x ∈ ZcY, SA w0 x.1 x.2) (hf57:Zbb w0) : AllOK Tryd.prog w0 Zei 64 (Zf3) := ZaD (Zeu hf57 (by kernel_rfl) rfl) Zcg
noncomputable abbrev Zgs : List (FuncId × Inl) := (Zf3)
theorem ZiI {w0:World} (hcs:∀ x ∈ ZcY, SA w0 x.1 x.2) (hf57:Zbb w0) : AllOK Tryd.prog w0 Zei 64 (Zgs) := (Zip hcs hf57)
noncomputable def ZjL : List (Nat × Lf) := []
theorem Zj7 : IoRunIs Tryd.prog (ZcY) Zei 64 (Zgs) (ZjL) Tryd.f45 88 Zbc Zbd Zbe Zbf Zbg [32, 33] (fun x => ZaC x.1 x.2.1 x.2.2) := by
 intro x; kernel_rfl
theorem Zj8 {w0:World}  (hcs:∀ x ∈ ZcY, SA w0 x.1 x.2) (hf57:Zbb w0) : Zab w0 := by
 exact Zb2 hcs (ZaP _ _) (ZiI hcs hf57) Tryd.func45 (by kernel_rfl) (by kernel_rfl) (fun w _ _ => ZaS _) (by kernel_rfl) (Zj7)
theorem Zch {w0:World}  : Zab w0 :=
 Zj8 ZbN (Zib)
def ZbC : Ag ((Unit × Int)) := (.cons (.lit (.ptr 64 [] 104)) (.one (.int .i64)))
def ZbD : Ent ((Nat × LI)) := (.one 32 (.lst .u8))
def ZbE : Ent ((Bool × (Nat × Nat × Nat) × Int)) := (.one 64 (.agg (.cons .bool (.cons (.gpw 32 5) (.one (.int .i64))))))
def ZbF : Pt (Unit) := (.tup .nil)
def ZbG : Ent ((Bool × (Nat × Nat × Nat) × Int)) := (.one 64 (.agg (.cons .bool (.cons (.gpw 32 5) (.one (.int .i64))))))
abbrev Zae (w0:World) : Prop := SoundIo Tryd.prog w0 48 64 89 ZbC ZbD ZbE ZbF ZbG [32, 64] (fun x => ZaW x.1 x.2.1 x.2.2)
def Zdg : List (FuncId × Ct) := []
def Zev : List Gv := []
noncomputable abbrev Zgt : List (FuncId × Inl) := ((45, (Inl.ct Tryd.prog 64 64 88 Zbc Zbd Zbe Zbf Zbg [32, 33] (fun x => ZaC x.1 x.2.1 x.2.2))) :: [])
theorem ZiJ {w0:World} (hcs:∀ x ∈ Zdg, SA w0 x.1 x.2) (hf45:Zab w0) : AllOK Tryd.prog w0 Zev 64 (Zgt) := ZaD (Zeu hf45 (by kernel_rfl) rfl) Zcg
noncomputable abbrev ZgY : List (FuncId × Inl) := (Zgt)
theorem Zi6 {w0:World} (hcs:∀ x ∈ Zdg, SA w0 x.1 x.2) (hf45:Zab w0) : AllOK Tryd.prog w0 Zev 64 (ZgY) := (ZiJ hcs hf45)
noncomputable def Zj9 : List (Nat × Lf) := []
theorem ZkD : IoRunIs Tryd.prog (Zdg) Zev 64 (ZgY) (Zj9) Tryd.f48 89 ZbC ZbD ZbE ZbF ZbG [32, 64] (fun x => ZaW x.1 x.2.1 x.2.2) := by
 intro x; kernel_rfl
theorem ZkE {w0:World}  (hcs:∀ x ∈ Zdg, SA w0 x.1 x.2) (hf45:Zab w0) : Zae w0 := by
 exact Zb2 hcs (ZaP _ _) (Zi6 hcs hf45) Tryd.func48 (by kernel_rfl) (by kernel_rfl) (fun w _ _ => ZaS _) (by kernel_rfl) (ZkD)
theorem Zdy {w0:World}  : Zae w0 :=
 ZkE ZbN (Zch)
def Zcm : Ag (Unit) := (.one (.lit (.ptr 64 [] 104)))
def Zcn : Ent ((Nat × LI)) := (.one 32 (.lst .u8))
def Zco : Ent ((Bool × (Nat × Nat × Nat) × Int)) := (.one 64 (.agg (.cons .bool (.cons (.gpw 32 5) (.one (.int .i64))))))
def Zcp : Pt (LI) := (.ints .u8 32)
def Zcq : Ent ((Bool × (Nat × Nat × Nat) × Int)) := (.one 64 (.agg (.cons .bool (.cons (.gpw 32 5) (.one (.int .i64))))))
abbrev Zaj (w0:World) : Prop := SoundIo Tryd.prog w0 51 64 89 Zcm Zcn Zco Zcp Zcq [32, 64] (fun x => Za5 x.1 x.2.1 x.2.2)
def ZbH : List (FuncId × Ct) := []
def Zcr : List Gv := []
noncomputable abbrev Zfg : List (FuncId × Inl) := ((45, (Inl.ct Tryd.prog 64 64 88 Zbc Zbd Zbe Zbf Zbg [32, 33] (fun x => ZaC x.1 x.2.1 x.2.2))) :: [])
theorem ZhE {w0:World} (hcs:∀ x ∈ ZbH, SA w0 x.1 x.2) (hf45:Zab w0) (hf48:Zae w0) : AllOK Tryd.prog w0 Zcr 64 (Zfg) := ZaD (Zeu hf45 (by kernel_rfl) rfl) Zcg
noncomputable abbrev Zfh : List (FuncId × Inl) := ((48, (Inl.ct Tryd.prog 64 64 89 ZbC ZbD ZbE ZbF ZbG [32, 64] (fun x => ZaW x.1 x.2.1 x.2.2))) :: (Zfg))
theorem ZhF {w0:World} (hcs:∀ x ∈ ZbH, SA w0 x.1 x.2) (hf45:Zab w0) (hf48:Zae w0) : AllOK Tryd.prog w0 Zcr 64 (Zfh) := ZaD (Zeu hf48 (by kernel_rfl) rfl) (ZhE hcs hf45 hf48)
noncomputable abbrev ZfI : List (FuncId × Inl) := (Zfh)
theorem ZhY {w0:World} (hcs:∀ x ∈ ZbH, SA w0 x.1 x.2) (hf45:Zab w0) (hf48:Zae w0) : AllOK Tryd.prog w0 Zcr 64 (ZfI) := (ZhF hcs hf45 hf48)
noncomputable def ZiK : List (Nat × Lf) := []
theorem Zi7 : IoRunIs Tryd.prog (ZbH) Zcr 64 (ZfI) (ZiK) Tryd.f51 89 Zcm Zcn Zco Zcp Zcq [32, 64] (fun x => Za5 x.1 x.2.1 x.2.2) := by
 intro x; kernel_rfl
theorem Zi8 {w0:World}  (hcs:∀ x ∈ ZbH, SA w0 x.1 x.2) (hf45:Zab w0) (hf48:Zae w0) : Zaj w0 := by
 exact Zb2 hcs (ZaP _ _) (ZhY hcs hf45 hf48) Tryd.func51 (by kernel_rfl) (by kernel_rfl) (fun w _ _ => ZaS _) (by kernel_rfl) (Zi7)
theorem Zf4 {w0:World}  : Zaj w0 :=
 Zi8 ZbN (Zch) (Zdy)
def Zd1 : Ag (Unit) := (.one (.lit (.ptr 64 [] 104)))
def Zd2 : Ent ((Nat × LI)) := (.one 32 (.lst .u8))
def Zd3 : Ent ((Bool × (Nat × Nat × Nat) × Int)) := (.one 64 (.agg (.cons .bool (.cons (.gpw 32 5) (.one (.int .i64))))))
def Zd4 : Pt (LI) := (.ints .u64 4)
def Zd5 : Ent ((Bool × (Nat × Nat × Nat) × Int)) := (.one 64 (.agg (.cons .bool (.cons (.gpw 32 5) (.one (.int .i64))))))
abbrev ZaT (w0:World) (N:Nat) : Prop := SoundIo Tryd.prog w0 34 64 89 Zd1 Zd2 Zd3 Zd4 Zd5 [32, 64] (fun x => ZaN N x.1 x.2.1 x.2.2)
def ZaX (N:Nat) : List (FuncId × Ct) := [(52, (Zfr N))]
def Za7 : List Gv := []
noncomputable abbrev ZfJ (N:Nat) : List (FuncId × Inl) := ((45, (Inl.ct Tryd.prog 64 64 88 Zbc Zbd Zbe Zbf Zbg [32, 33] (fun x => ZaC x.1 x.2.1 x.2.2))) :: [])
theorem ZhZ {w0:World} (N:Nat) (hcs:∀ x ∈ ZaX N, SA w0 x.1 x.2) (hf45:Zab w0) (hf51:Zaj w0) (hf48:Zae w0) : AllOK Tryd.prog w0 Za7 64 (ZfJ N) := ZaD (Zeu hf45 (by kernel_rfl) rfl) Zcg
noncomputable abbrev ZfK (N:Nat) : List (FuncId × Inl) := ((51, (Inl.ct Tryd.prog 64 64 89 Zcm Zcn Zco Zcp Zcq [32, 64] (fun x => Za5 x.1 x.2.1 x.2.2))) :: (ZfJ N))
theorem Zh0 {w0:World} (N:Nat) (hcs:∀ x ∈ ZaX N, SA w0 x.1 x.2) (hf45:Zab w0) (hf51:Zaj w0) (hf48:Zae w0) : AllOK Tryd.prog w0 Za7 64 (ZfK N) := ZaD (Zeu hf51 (by kernel_rfl) rfl) (ZhZ N hcs hf45 hf51 hf48)
noncomputable abbrev ZdA (N:Nat) : List (FuncId × Inl) := ((48, (Inl.ct Tryd.prog 64 64 89 ZbC ZbD ZbE ZbF ZbG [32, 64] (fun x => ZaW x.1 x.2.1 x.2.2))) :: (ZfK N))
theorem ZeM {w0:World} (N:Nat) (hcs:∀ x ∈ ZaX N, SA w0 x.1 x.2) (hf45:Zab w0) (hf51:Zaj w0) (hf48:Zae w0) : AllOK Tryd.prog w0 Za7 64 (ZdA N) := ZaD (Zeu hf48 (by kernel_rfl) rfl) (Zh0 N hcs hf45 hf51 hf48)
noncomputable abbrev ZfL (N:Nat) : List (FuncId × Inl) := ((47, (inlOf Tryd.prog (ZaX N) Za7 64 100 (ZdA N) Tryd.f47)) :: (ZdA N))
theorem Zh1 {w0:World} (N:Nat) (hcs:∀ x ∈ ZaX N, SA w0 x.1 x.2) (hf45:Zab w0) (hf51:Zaj w0) (hf48:Zae w0) : AllOK Tryd.prog w0 Za7 64 (ZfL N) := ZaD (Zmp hcs (ZeM N hcs hf45 hf51 hf48) Tryd.func47 (by kernel_rfl) (by kernel_rfl)) (ZeM N hcs hf45 hf51 hf48)
noncomputable abbrev Zf5 (N:Nat) : List (FuncId × Inl) := (ZfL N)
theorem Ziq {w0:World} (N:Nat) (hcs:∀ x ∈ ZaX N, SA w0 x.1 x.2) (hf45:Zab w0) (hf51:Zaj w0) (hf48:Zae w0) : AllOK Tryd.prog w0 Za7 64 (Zf5 N) := (Zh1 N hcs hf45 hf51 hf48)
noncomputable def Zi9 (N:Nat) : List (Nat × Lf) := []
theorem ZjM (N:Nat) : IoRunIs Tryd.prog (ZaX N) Za7 64 (Zf5 N) (Zi9 N) Tryd.f34 89 Zd1 Zd2 Zd3 Zd4 Zd5 [32, 64] (fun x => ZaN N x.1 x.2.1 x.2.2) := by
 intro x; kernel_rfl
theorem ZjN {w0:World} (N:Nat)  (hcs:∀ x ∈ ZaX N, SA w0 x.1 x.2) (hf45:Zab w0) (hf51:Zaj w0) (hf48:Zae w0) : ZaT w0 N := by
 exact Zb2 hcs (ZaP _ _) (Ziq N hcs hf45 hf51 hf48) Tryd.func34 (by kernel_rfl) (by kernel_rfl) (fun w _ _ => ZaS _) (by kernel_rfl) (ZjM N)
theorem ZjO {w0:World} (N:Nat)  (ZaB:GO w0 Zbl) (Zak:GO w0 ZaL) : ZaT w0 N :=
 ZjN N (Zbw (Zj5 N ZaB Zak) ZbN) (Zch) (Zf4) (Zdy)
def Zdm : Ag (Unit) := (.one (.lit (.ptr 64 [] 104)))
def Zdn : Ent ((Nat × LI)) := (.one 32 (.lst .u8))
def Zdo : Ent ((Bool × (Nat × Nat × Nat) × Int)) := (.one 64 (.agg (.cons .bool (.cons (.gpw 32 5) (.one (.int .i64))))))
def Zdp : Pt (LI) := (.agg (.one (.ints .u64 4)))
def Zdq : Ent ((Bool × (Nat × Nat × Nat) × Int)) := (.one 64 (.agg (.cons .bool (.cons (.gpw 32 5) (.one (.int .i64))))))
abbrev ZaM (w0:World) (N:Nat) : Prop := SoundIo Tryd.prog w0 33 64 89 Zdm Zdn Zdo Zdp Zdq [32, 64] (fun x => Zay N x.1 x.2.1 x.2.2)
def ZaA (N:Nat) : List (FuncId × Ct) := [(52, (Zfr N))]
def ZaH : List Gv := []
noncomputable abbrev ZeN (N:Nat) : List (FuncId × Inl) := ((45, (Inl.ct Tryd.prog 64 64 88 Zbc Zbd Zbe Zbf Zbg [32, 33] (fun x => ZaC x.1 x.2.1 x.2.2))) :: [])
theorem Zhq {w0:World} (N:Nat) (hcs:∀ x ∈ ZaA N, SA w0 x.1 x.2) (hf45:Zab w0) (hf51:Zaj w0) (hf48:Zae w0) : AllOK Tryd.prog w0 ZaH 64 (ZeN N) := ZaD (Zeu hf45 (by kernel_rfl) rfl) Zcg
noncomputable abbrev ZeO (N:Nat) : List (FuncId × Inl) := ((51, (Inl.ct Tryd.prog 64 64 89 Zcm Zcn Zco Zcp Zcq [32, 64] (fun x => Za5 x.1 x.2.1 x.2.2))) :: (ZeN N))
theorem Zhr {w0:World} (N:Nat) (hcs:∀ x ∈ ZaA N, SA w0 x.1 x.2) (hf45:Zab w0) (hf51:Zaj w0) (hf48:Zae w0) : AllOK Tryd.prog w0 ZaH 64 (ZeO N) := ZaD (Zeu hf51 (by kernel_rfl) rfl) (Zhq N hcs hf45 hf51 hf48)
noncomputable abbrev Zc4 (N:Nat) : List (FuncId × Inl) := ((48, (Inl.ct Tryd.prog 64 64 89 ZbC ZbD ZbE ZbF ZbG [32, 64] (fun x => ZaW x.1 x.2.1 x.2.2))) :: (ZeO N))
theorem Zeo {w0:World} (N:Nat) (hcs:∀ x ∈ ZaA N, SA w0 x.1 x.2) (hf45:Zab w0) (hf51:Zaj w0) (hf48:Zae w0) : AllOK Tryd.prog w0 ZaH 64 (Zc4 N) := ZaD (Zeu hf48 (by kernel_rfl) rfl) (Zhr N hcs hf45 hf51 hf48)
noncomputable abbrev Zc5 (N:Nat) : List (FuncId × Inl) := ((115, (inlOf Tryd.prog (ZaA N) ZaH 64 100 (Zc4 N) Tryd.f115)) :: (Zc4 N))
theorem Zep {w0:World} (N:Nat) (hcs:∀ x ∈ ZaA N, SA w0 x.1 x.2) (hf45:Zab w0) (hf51:Zaj w0) (hf48:Zae w0) : AllOK Tryd.prog w0 ZaH 64 (Zc5 N) := ZaD (Zmp hcs (Zeo N hcs hf45 hf51 hf48) Tryd.func115 (by kernel_rfl) (by kernel_rfl)) (Zeo N hcs hf45 hf51 hf48)
noncomputable abbrev ZeP (N:Nat) : List (FuncId × Inl) := ((47, (inlOf Tryd.prog (ZaA N) ZaH 64 100 (Zc5 N) Tryd.f47)) :: (Zc5 N))
theorem Zhs {w0:World} (N:Nat) (hcs:∀ x ∈ ZaA N, SA w0 x.1 x.2) (hf45:Zab w0) (hf51:Zaj w0) (hf48:Zae w0) : AllOK Tryd.prog w0 ZaH 64 (ZeP N) := ZaD (Zmp hcs (Zep N hcs hf45 hf51 hf48) Tryd.func47 (by kernel_rfl) (by kernel_rfl)) (Zep N hcs hf45 hf51 hf48)
noncomputable abbrev Zfi (N:Nat) : List (FuncId × Inl) := (ZeP N)
theorem ZhG {w0:World} (N:Nat) (hcs:∀ x ∈ ZaA N, SA w0 x.1 x.2) (hf45:Zab w0) (hf51:Zaj w0) (hf48:Zae w0) : AllOK Tryd.prog w0 ZaH 64 (Zfi N) := (Zhs N hcs hf45 hf51 hf48)
noncomputable def Zir (N:Nat) : List (Nat × Lf) := []
theorem ZiL (N:Nat) : IoRunIs Tryd.prog (ZaA N) ZaH 64 (Zfi N) (Zir N) Tryd.f33 89 Zdm Zdn Zdo Zdp Zdq [32, 64] (fun x => Zay N x.1 x.2.1 x.2.2) := by
 intro x; kernel_rfl
theorem ZiM {w0:World} (N:Nat)  (hcs:∀ x ∈ ZaA N, SA w0 x.1 x.2) (hf45:Zab w0) (hf51:Zaj w0) (hf48:Zae w0) : ZaM w0 N := by
 exact Zb2 hcs (ZaP _ _) (ZhG N hcs hf45 hf51 hf48) Tryd.func33 (by kernel_rfl) (by kernel_rfl) (fun w _ _ => ZaS _) (by kernel_rfl) (ZiL N)
theorem ZiN {w0:World} (N:Nat)  (ZaB:GO w0 Zbl) (Zak:GO w0 ZaL) : ZaM w0 N :=
 ZiM N (Zbw (Zj5 N ZaB Zak) ZbN) (Zch) (Zf4) (Zdy)
def ZeY : Ag (Unit) := (.one (.lit (.ptr 32 [] 104)))
def ZeZ : Ent (((Bool × (Nat × Nat × Nat) × Int) × (Nat × LI))) := (.cons 32 (.agg (.cons .bool (.cons (.gpw 33 5) (.one (.int .i64))))) (.one 33 (.lst .u8)))
def Ze0 : Ent (Unit) := .nil
def Ze1 : Pt (Int) := (.int .i64)
def Ze2 : Ent (Unit) := .nil
abbrev Zbo (w0:World) : Prop := SoundIo Tryd.prog w0 53 64 88 ZeY ZeZ Ze0 Ze1 Ze2 [32, 33] (fun x => ZcL x.1 x.2.1 x.2.2)
def Zdz : List (FuncId × Ct) := []
def Ze3 : List Gv := []
noncomputable abbrev ZgZ : List (FuncId × Inl) := ((57, (Inl.ct Tryd.prog 64 64 88 ZdW ZdX ZdY ZdZ Zd0 [32, 33] (fun x => Zdc x.1 x.2.1 x.2.2))) :: [])
theorem Zja {w0:World} (hcs:∀ x ∈ Zdz, SA w0 x.1 x.2) (hf57:Zbb w0) : AllOK Tryd.prog w0 Ze3 64 (ZgZ) := ZaD (Zeu hf57 (by kernel_rfl) rfl) Zcg
noncomputable abbrev Zhl : List (FuncId × Inl) := (ZgZ)
theorem ZjP {w0:World} (hcs:∀ x ∈ Zdz, SA w0 x.1 x.2) (hf57:Zbb w0) : AllOK Tryd.prog w0 Ze3 64 (Zhl) := (Zja hcs hf57)
noncomputable def ZkF : List (Nat × Lf) := []
theorem ZkU : IoRunIs Tryd.prog (Zdz) Ze3 64 (Zhl) (ZkF) Tryd.f53 88 ZeY ZeZ Ze0 Ze1 Ze2 [32, 33] (fun x => ZcL x.1 x.2.1 x.2.2) := by
 intro x; kernel_rfl
theorem ZkV {w0:World}  (hcs:∀ x ∈ Zdz, SA w0 x.1 x.2) (hf57:Zbb w0) : Zbo w0 := by
 exact Zb2 hcs (ZaP _ _) (ZjP hcs hf57) Tryd.func53 (by kernel_rfl) (by kernel_rfl) (fun w _ _ => ZaS _) (by kernel_rfl) (ZkU)
theorem ZkW {w0:World}  : Zbo w0 :=
 ZkV ZbN (Zib)
def Ze4 : Ag (Unit) := (.one (.lit (.ptr 64 [] 104)))
def Ze5 : Ent ((Nat × LI)) := (.one 32 (.lst .u8))
def Ze6 : Ent ((Bool × (Nat × Nat × Nat) × Int)) := (.one 64 (.agg (.cons .bool (.cons (.gpw 32 5) (.one (.int .i64))))))
def Ze7 : Pt (Int) := (.int .i64)
def Ze8 : Ent ((Bool × (Nat × Nat × Nat) × Int)) := (.one 64 (.agg (.cons .bool (.cons (.gpw 32 5) (.one (.int .i64))))))
abbrev Za6 (w0:World) : Prop := SoundIo Tryd.prog w0 35 64 89 Ze4 Ze5 Ze6 Ze7 Ze8 [32, 64] (fun x => ZdB x.1 x.2.1 x.2.2)
def ZbY : List (FuncId × Ct) := []
def Zcw : List Gv := []
noncomputable abbrev Zg0 : List (FuncId × Inl) := ((45, (Inl.ct Tryd.prog 64 64 88 Zbc Zbd Zbe Zbf Zbg [32, 33] (fun x => ZaC x.1 x.2.1 x.2.2))) :: [])
theorem Zjb {w0:World} (hcs:∀ x ∈ ZbY, SA w0 x.1 x.2) (hf45:Zab w0) (hf48:Zae w0) (hf53:Zbo w0) : AllOK Tryd.prog w0 Zcw 64 (Zg0) := ZaD (Zeu hf45 (by kernel_rfl) rfl) Zcg
noncomputable abbrev Zg1 : List (FuncId × Inl) := ((48, (Inl.ct Tryd.prog 64 64 89 ZbC ZbD ZbE ZbF ZbG [32, 64] (fun x => ZaW x.1 x.2.1 x.2.2))) :: (Zg0))
theorem Zjc {w0:World} (hcs:∀ x ∈ ZbY, SA w0 x.1 x.2) (hf45:Zab w0) (hf48:Zae w0) (hf53:Zbo w0) : AllOK Tryd.prog w0 Zcw 64 (Zg1) := ZaD (Zeu hf48 (by kernel_rfl) rfl) (Zjb hcs hf45 hf48 hf53)
noncomputable abbrev Zg2 : List (FuncId × Inl) := ((53, (Inl.ct Tryd.prog 64 64 88 ZeY ZeZ Ze0 Ze1 Ze2 [32, 33] (fun x => ZcL x.1 x.2.1 x.2.2))) :: (Zg1))
theorem Zjd {w0:World} (hcs:∀ x ∈ ZbY, SA w0 x.1 x.2) (hf45:Zab w0) (hf48:Zae w0) (hf53:Zbo w0) : AllOK Tryd.prog w0 Zcw 64 (Zg2) := ZaD (Zeu hf53 (by kernel_rfl) rfl) (Zjc hcs hf45 hf48 hf53)
noncomputable abbrev Zhm : List (FuncId × Inl) := (Zg2)
theorem ZjQ {w0:World} (hcs:∀ x ∈ ZbY, SA w0 x.1 x.2) (hf45:Zab w0) (hf48:Zae w0) (hf53:Zbo w0) : AllOK Tryd.prog w0 Zcw 64 (Zhm) := (Zjd hcs hf45 hf48 hf53)
noncomputable def ZkG : List (Nat × Lf) := []
theorem ZkX : IoRunIs Tryd.prog (ZbY) Zcw 64 (Zhm) (ZkG) Tryd.f35 89 Ze4 Ze5 Ze6 Ze7 Ze8 [32, 64] (fun x => ZdB x.1 x.2.1 x.2.2) := by
 intro x; kernel_rfl
theorem ZkY {w0:World}  (hcs:∀ x ∈ ZbY, SA w0 x.1 x.2) (hf45:Zab w0) (hf48:Zae w0) (hf53:Zbo w0) : Za6 w0 := by
 exact Zb2 hcs (ZaP _ _) (ZjQ hcs hf45 hf48 hf53) Tryd.func35 (by kernel_rfl) (by kernel_rfl) (fun w _ _ => ZaS _) (by kernel_rfl) (ZkX)
theorem ZkZ {w0:World}  : Za6 w0 :=
 ZkY ZbN (Zch) (Zdy) (ZkW)
def ZgH : Ag ((Nat × Nat × Nat)) := (.one (.gpw 32 5))
def ZgI : Ent ((Nat × LI)) := (.one 32 (.lst .u8))
def ZgJ : Ent (Unit) := .nil
def ZgK : Pt (Unit) := (.lit (.ptr 64 [] 104))
def ZgL : Ent (((Bool × (Nat × Nat × Nat) × Int) × (Nat × LI))) := (.cons 64 (.agg (.cons .bool (.cons (.gpw 65 5) (.one (.int .i64))))) (.one 65 (.lst .u8)))
abbrev Zbv (w0:World) : Prop := SoundIo Tryd.prog w0 21 64 88 ZgH ZgI ZgJ ZgK ZgL [32] (fun x => Zeg x.1 x.2.1 x.2.2)
def ZgM : List (FuncId × Ct) := [(44, Zen)]
def ZiO : List Gv := []
noncomputable abbrev ZiP : List (FuncId × Inl) := []
theorem Zk0 {w0:World} (hcs:∀ x ∈ ZgM, SA w0 x.1 x.2) : AllOK Tryd.prog w0 ZiO 64 (ZiP) := Zcg
noncomputable def ZlZ : List (Nat × Lf) := []
theorem ZmH : IoRunIs Tryd.prog (ZgM) ZiO 64 (ZiP) (ZlZ) Tryd.f21 88 ZgH ZgI ZgJ ZgK ZgL [32] (fun x => Zeg x.1 x.2.1 x.2.2) := by
 intro x; kernel_rfl
theorem ZmI {w0:World}  (hcs:∀ x ∈ ZgM, SA w0 x.1 x.2) : Zbv w0 := by
 exact Zb2 hcs (ZaP _ _) (Zk0 hcs) Tryd.func21 (by kernel_rfl) (by kernel_rfl) (fun w _ _ => ZaS _) (by kernel_rfl) (ZmH)
theorem ZmJ {w0:World}  : Zbv w0 :=
 ZmI (Zbw (ZhB) ZbN)
def Zb3 : Ag ((Nat × Nat × Nat)) := (.one (.gpw 32 5))
def Zb4 : Ent ((Nat × LI)) := (.one 32 (.lst .u8))
def Zb5 : Ent (Unit) := .nil
def Zb6 : Pt (((LI × LI × LI × LI × LI × LI × LI × Nat × Nat × LI × LI) × Int)) := (.tup (.cons (.agg (.cons (.agg (.one (.ints .u64 4))) (.cons (.agg (.one (.ints .u64 4))) (.cons (.agg (.one (.ints .u64 4))) (.cons (.agg (.one (.ints .u64 4))) (.cons (.ints .u64 4) (.cons (.ints .u64 4) (.cons (.ints .u64 4) (.cons (.gsw 64 34) (.cons (.gsw 65 34) (.cons (.ints .u64 4) (.one (.ints .u64 4))))))))))))) (.one (.int .i64))))
def Zb7 : Ent ((List (LI) × List (LI))) := (.cons 64 (.vec (.agg (.ints .u64 4))) (.one 65 (.vec (.agg (.ints .u64 4)))))
abbrev Zan (w0:World) (N:Nat) : Prop := SoundIo Tryd.prog w0 11 64 88 Zb3 Zb4 Zb5 Zb6 Zb7 [32] (fun x => Zax N x.1 x.2.1 x.2.2)
def Zar (N:Nat) : List (FuncId × Ct) := []
def Zav : List Gv := []
noncomputable abbrev Zdt (N:Nat) : List (FuncId × Inl) := ((21, (Inl.ct Tryd.prog 64 64 88 ZgH ZgI ZgJ ZgK ZgL [32] (fun x => Zeg x.1 x.2.1 x.2.2))) :: [])
theorem ZfO {w0:World} (N:Nat) (hcs:∀ x ∈ Zar N, SA w0 x.1 x.2) (hf21:Zbv w0) (hf33:ZaM w0 N) (hf34:ZaT w0 N) (hf35:Za6 w0) : AllOK Tryd.prog w0 Zav 64 (Zdt N) := ZaD (Zeu hf21 (by kernel_rfl) rfl) Zcg
noncomputable abbrev Zdu (N:Nat) : List (FuncId × Inl) := ((33, (Inl.ct Tryd.prog 64 64 89 Zdm Zdn Zdo Zdp Zdq [32, 64] (fun x => Zay N x.1 x.2.1 x.2.2))) :: (Zdt N))
theorem ZfP {w0:World} (N:Nat) (hcs:∀ x ∈ Zar N, SA w0 x.1 x.2) (hf21:Zbv w0) (hf33:ZaM w0 N) (hf34:ZaT w0 N) (hf35:Za6 w0) : AllOK Tryd.prog w0 Zav 64 (Zdu N) := ZaD (Zeu hf33 (by kernel_rfl) rfl) (ZfO N hcs hf21 hf33 hf34 hf35)
noncomputable abbrev Zdv (N:Nat) : List (FuncId × Inl) := ((34, (Inl.ct Tryd.prog 64 64 89 Zd1 Zd2 Zd3 Zd4 Zd5 [32, 64] (fun x => ZaN N x.1 x.2.1 x.2.2))) :: (Zdu N))
theorem ZfQ {w0:World} (N:Nat) (hcs:∀ x ∈ Zar N, SA w0 x.1 x.2) (hf21:Zbv w0) (hf33:ZaM w0 N) (hf34:ZaT w0 N) (hf35:Za6 w0) : AllOK Tryd.prog w0 Zav 64 (Zdv N) := ZaD (Zeu hf34 (by kernel_rfl) rfl) (ZfP N hcs hf21 hf33 hf34 hf35)
noncomputable abbrev Zdw (N:Nat) : List (FuncId × Inl) := ((35, (Inl.ct Tryd.prog 64 64 89 Ze4 Ze5 Ze6 Ze7 Ze8 [32, 64] (fun x => ZdB x.1 x.2.1 x.2.2))) :: (Zdv N))
theorem ZfR {w0:World} (N:Nat) (hcs:∀ x ∈ Zar N, SA w0 x.1 x.2) (hf21:Zbv w0) (hf33:ZaM w0 N) (hf34:ZaT w0 N) (hf35:Za6 w0) : AllOK Tryd.prog w0 Zav 64 (Zdw N) := ZaD (Zeu hf35 (by kernel_rfl) rfl) (ZfQ N hcs hf21 hf33 hf34 hf35)
noncomputable abbrev Zbq (N:Nat) : List (FuncId × Inl) := (Zdw N)
theorem Zdh {w0:World} (N:Nat) (hcs:∀ x ∈ Zar N, SA w0 x.1 x.2) (hf21:Zbv w0) (hf33:ZaM w0 N) (hf34:ZaT w0 N) (hf35:Za6 w0) : AllOK Tryd.prog w0 Zav 64 (Zbq N) := (ZfR N hcs hf21 hf33 hf34 hf35)
def ZbR : Fm ((Unit × Unit × Unit × Unit × Int × Int)) ((List (LI) × List (LI) × Unit × (Bool × (Nat × Nat × Nat) × Int) × (Nat × LI) × (LI × LI × LI × LI × LI × LI × LI × Nat × Nat × LI × LI))) := ⟨(.cons 2 (.lit (.ptr 88 [] 37)) (.cons 3 (.lit (.int .i64 0)) (.cons 5 (.lit (.ptr 178 [] 104)) (.cons 6 (.lit (.ptr 205 [] 37)) (.cons 60 (.int .i64) (.one 61 (.int .i64))))))), (.cons 64 (.vec (.agg (.ints .u64 4))) (.cons 65 (.vec (.agg (.ints .u64 4))) (.cons 88 (.lit (.agg [(.agg [(.ints .u64 4 [0, 0, 0, 0])]), (.agg [(.ints .u64 4 [0, 0, 0, 0])]), (.agg [(.ints .u64 4 [0, 0, 0, 0])]), (.agg [(.ints .u64 4 [0, 0, 0, 0])]), (.ints .u64 4 [0, 0, 0, 0]), (.ints .u64 4 [0, 0, 0, 0]), (.ints .u64 4 [0, 0, 0, 0]), .nils, .nils, (.ints .u64 4 [0, 0, 0, 0]), (.ints .u64 4 [0, 0, 0, 0])])) (.cons 178 (.agg (.cons .bool (.cons (.gpw 179 5) (.one (.int .i64))))) (.cons 179 (.lst .u8) (.one 205 (.agg (.cons (.agg (.one (.ints .u64 4))) (.cons (.agg (.one (.ints .u64 4))) (.cons (.agg (.one (.ints .u64 4))) (.cons (.agg (.one (.ints .u64 4))) (.cons (.ints .u64 4) (.cons (.ints .u64 4) (.cons (.ints .u64 4) (.cons (.gsw 64 34) (.cons (.gsw 65 34) (.cons (.ints .u64 4) (.one (.ints .u64 4)))))))))))))))))))⟩
def ZbS : Fm ((Unit × Unit × Unit)) ((List (LI) × List (LI) × Unit × (Bool × (Nat × Nat × Nat) × Int) × (Nat × LI) × (LI × LI × LI × LI × LI × LI × LI × Nat × Nat × LI × LI))) := ⟨(.cons 2 (.lit (.ptr 88 [] 37)) (.cons 5 (.lit (.ptr 178 [] 104)) (.one 6 (.lit (.ptr 205 [] 37))))), (.cons 64 (.vec (.agg (.ints .u64 4))) (.cons 65 (.vec (.agg (.ints .u64 4))) (.cons 88 (.lit (.agg [(.agg [(.ints .u64 4 [0, 0, 0, 0])]), (.agg [(.ints .u64 4 [0, 0, 0, 0])]), (.agg [(.ints .u64 4 [0, 0, 0, 0])]), (.agg [(.ints .u64 4 [0, 0, 0, 0])]), (.ints .u64 4 [0, 0, 0, 0]), (.ints .u64 4 [0, 0, 0, 0]), (.ints .u64 4 [0, 0, 0, 0]), .nils, .nils, (.ints .u64 4 [0, 0, 0, 0]), (.ints .u64 4 [0, 0, 0, 0])])) (.cons 178 (.agg (.cons .bool (.cons (.gpw 179 5) (.one (.int .i64))))) (.cons 179 (.lst .u8) (.one 205 (.agg (.cons (.agg (.one (.ints .u64 4))) (.cons (.agg (.one (.ints .u64 4))) (.cons (.agg (.one (.ints .u64 4))) (.cons (.agg (.one (.ints .u64 4))) (.cons (.ints .u64 4) (.cons (.ints .u64 4) (.cons (.ints .u64 4) (.cons (.gsw 64 34) (.cons (.gsw 65 34) (.cons (.ints .u64 4) (.one (.ints .u64 4)))))))))))))))))))⟩
def ZbT : Fm (Unit) (Unit) := ⟨.nil, .nil⟩
noncomputable def Zb8 (N:Nat) : List (Nat × Lf) := [(4, loopCt ZbR ZbS ZbT 210 (ZaE N) N)]
theorem Zfj (N:Nat) : StepIs Tryd.prog (cxIn Tryd.f11 (Zar N) Zav 64 (Zbq N)) (Zb8 N) Tryd.f11 4 210 ZbR ZbS ZbT (ZaE N) := by
 intro v; kernel_rfl
theorem Zg3 (N:Nat) : IoRunIs Tryd.prog (Zar N) Zav 64 (Zbq N) (Zb8 N) Tryd.f11 88 Zb3 Zb4 Zb5 Zb6 Zb7 [32] (fun x => Zax N x.1 x.2.1 x.2.2) := by
 intro x; kernel_rfl
theorem Zg4 {w0:World} (N:Nat)  (hcs:∀ x ∈ Zar N, SA w0 x.1 x.2) (hf21:Zbv w0) (hf33:ZaM w0 N) (hf34:ZaT w0 N) (hf35:Za6 w0) : Zan w0 N := by
 have L4 : ∀ w : Base, w.g = w0 → ∀ ρk, LoopOKX Tryd.prog (cxIn Tryd.f11 (Zar N) Zav 64 (Zbq N)) w (Kp [32] ρk) 4 (.loop (loopBody Tryd.f11 4)) (loopCt ZbR ZbS ZbT 210 (ZaE N) N) :=
  Zf6 hcs (Zdh N hcs hf21 hf33 hf34 hf35) (ls := Zb8 N) (n := 100) (by kernel_rfl) (Zfj N) N fun w hw ρk => Zap (lp_no (by kernel_rfl) ZcK)
 exact Zb2 hcs (ZaP _ _) (Zdh N hcs hf21 hf33 hf34 hf35) Tryd.func11 (by kernel_rfl) (by kernel_rfl) (fun w hw ρk => Zap (Zhk (L4 w hw ρk) (by kernel_rfl) ZcK)) (by kernel_rfl) (Zg3 N)
theorem Zg5 {w0:World} (N:Nat)  (ZaB:GO w0 Zbl) (Zak:GO w0 ZaL) : Zan w0 N :=
 Zg4 N ZbN (ZmJ) (ZiN N ZaB Zak) (ZjO N ZaB Zak) (ZkZ)
abbrev ZiQ : Ag ((List (LI) × Unit)) := (.one (.tup (.cons (.vec (.ints .u64 4)) (.one (.lit (.clo 24 []))))))
abbrev ZiR : Pt ((List (LI) × Unit)) := (.tup (.cons (.vec (.agg (.ints .u64 4))) (.one (.lit (.clo 34 [])))))
def Zf7 (N:Nat) : Ct := fct ZiQ ZiR fun x => ZdC N x
def Zeq (N:Nat) : List (FuncId × Ct) := []
def Zf8 : List Gv := []
def Ze9 : Fm ((Nat × Unit × Nat × Int)) ((List (LI) × List (LI))) := ⟨(.cons 0 (.slw 0 24) (.cons 2 (.lit .nils) (.cons 3 (.gsw 1 34) (.one 4 (.int .i64))))), (.cons 0 (.vec (.ints .u64 4)) (.one 1 (.vec (.agg (.ints .u64 4)))))⟩
def Zfa : Fm (Nat) (List (LI)) := ⟨(.one 3 (.gsw 1 34)), (.one 1 (.vec (.agg (.ints .u64 4))))⟩
def Zfb : Fm (Unit) (Unit) := ⟨.nil, .nil⟩
noncomputable def Zf9 (N:Nat) : List (Nat × Lf) := [(0, loopCt Ze9 Zfa Zfb 4 (ZbU N) N)]
theorem Zje (N:Nat) : StepIs Tryd.prog (cxOf Tryd.f30 (Zeq N) Zf8 1) (Zf9 N) Tryd.f30 0 4 Ze9 Zfa Zfb (ZbU N) := by
 intro v; kernel_rfl
theorem Zl0 (N:Nat) : RunIs Tryd.prog (Zeq N) Zf8 1 (Zf9 N) Tryd.f30 ZiQ ZiR (fun x => ZdC N x) := by
 intro x; kernel_rfl
theorem Zl1 {w0:World} (N:Nat)  (hcs:∀ x ∈ Zeq N, SA w0 x.1 x.2) : SA w0 30 (Zf7 N) := by
 have L0 : ∀ w : Base, w.g = w0 → LoopOK Tryd.prog (cxOf Tryd.f30 (Zeq N) Zf8 1) w 0 (.loop (loopBody Tryd.f30 0)) (loopCt Ze9 Zfa Zfb 4 (ZbU N) N) :=
  ZcJ hcs (ls := Zf9 N) (n := 100) (by kernel_rfl) (Zje N) N fun w hw => Zap (lp_no (by kernel_rfl) ZcK)
 exact Za0 hcs (ZaP _ _) Tryd.func30 (by kernel_rfl) (by kernel_rfl) (S := 1) (fun w hw => Zap (Zhk (L0 w hw) (by kernel_rfl) ZcK)) (fun _ => rfl) (Zl0 N)
theorem Zl2 {w0:World} (N:Nat)  : SA w0 30 (Zf7 N) :=
 Zl1 N ZbN
def ZcR : Ag (((LI × LI × LI × LI) × LI × LI × LI × List (LI) × List (LI) × LI × LI)) := (.one (.agg (.cons (.agg (.cons (.ints .u64 4) (.cons (.ints .u64 4) (.cons (.ints .u64 4) (.one (.ints .u64 4)))))) (.cons (.ints .u64 4) (.cons (.ints .u64 4) (.cons (.ints .u64 4) (.cons (.dvw 32 24 (.tc (.ints .u64 4))) (.cons (.dvw 33 24 (.tc (.ints .u64 4))) (.cons (.ints .u64 4) (.one (.ints .u64 4)))))))))))
def ZcS : Ent (Unit) := .nil
def ZcT : Ent (Unit) := .nil
def ZcU : Pt ((LI × LI × LI × LI × LI × LI × LI × Nat × Nat × LI × LI)) := (.agg (.cons (.agg (.one (.ints .u64 4))) (.cons (.agg (.one (.ints .u64 4))) (.cons (.agg (.one (.ints .u64 4))) (.cons (.agg (.one (.ints .u64 4))) (.cons (.ints .u64 4) (.cons (.ints .u64 4) (.cons (.ints .u64 4) (.cons (.gsw 64 34) (.cons (.gsw 65 34) (.cons (.ints .u64 4) (.one (.ints .u64 4)))))))))))))
def ZcV : Ent ((List (LI) × List (LI))) := (.cons 64 (.vec (.agg (.ints .u64 4))) (.one 65 (.vec (.agg (.ints .u64 4)))))
abbrev Zat (w0:World) (N:Nat) : Prop := SoundIo Tryd.prog w0 8 64 88 ZcR ZcS ZcT ZcU ZcV [] (fun x => ZaJ N x.1 x.2.1 x.2.2)
def ZcW (N:Nat) : List (FuncId × Ct) := [(30, (Zf7 N))]
def Zew : List Gv := []
noncomputable abbrev Zex (N:Nat) : List (FuncId × Inl) := []
theorem Zhe {w0:World} (N:Nat) (hcs:∀ x ∈ ZcW N, SA w0 x.1 x.2) : AllOK Tryd.prog w0 Zew 64 (Zex N) := Zcg
noncomputable def ZhH (N:Nat) : List (Nat × Lf) := []
theorem Zh2 (N:Nat) : IoRunIs Tryd.prog (ZcW N) Zew 64 (Zex N) (ZhH N) Tryd.f8 88 ZcR ZcS ZcT ZcU ZcV [] (fun x => ZaJ N x.1 x.2.1 x.2.2) := by
 intro x; kernel_rfl
theorem Zh3 {w0:World} (N:Nat)  (hcs:∀ x ∈ ZcW N, SA w0 x.1 x.2) : Zat w0 N := by
 exact Zb2 hcs (ZaP _ _) (Zhe N hcs) Tryd.func8 (by kernel_rfl) (by kernel_rfl) (fun w _ _ => ZaS _) (by kernel_rfl) (Zh2 N)
theorem Zh4 {w0:World} (N:Nat)  : Zat w0 N :=
 Zh3 N (Zbw (Zl2 N) ZbN)
def Zb9 : Ag ((LI × LI × LI × LI × LI × LI × LI × Nat × Nat × LI × LI)) := (.one (.agg (.cons (.agg (.one (.ints .u64 4))) (.cons (.agg (.one (.ints .u64 4))) (.cons (.agg (.one (.ints .u64 4))) (.cons (.agg (.one (.ints .u64 4))) (.cons (.ints .u64 4) (.cons (.ints .u64 4) (.cons (.ints .u64 4) (.cons (.slw 32 34) (.cons (.slw 33 34) (.cons (.ints .u64 4) (.one (.ints .u64 4))))))))))))))
def Zca : Ent ((List (LI) × List (LI))) := (.cons 32 (.vec (.agg (.ints .u64 4))) (.one 33 (.vec (.agg (.ints .u64 4)))))
def Zcb : Ent (Unit) := .nil
def Zcc : Pt ((Nat × Int)) := (.tup (.cons (.gsw 64 5) (.one (.int .i64))))
def Zcd : Ent ((Nat × LI)) := (.one 64 (.lst .u8))
abbrev Zao (w0:World) (N:Nat) : Prop := SoundIo Tryd.prog w0 7 64 88 Zb9 Zca Zcb Zcc Zcd [32, 33] (fun x => Zah N x.1 x.2.1 x.2.2)
def Zas (N:Nat) : List (FuncId × Ct) := [(29, (ZdS N))]
def Zaw : List Gv := []
noncomputable abbrev Zb0 (N:Nat) : List (FuncId × Inl) := ((117, (inlOf Tryd.prog (Zas N) Zaw 64 100 [] Tryd.f117)) :: [])
theorem Zc0 {w0:World} (N:Nat) (hcs:∀ x ∈ Zas N, SA w0 x.1 x.2) : AllOK Tryd.prog w0 Zaw 64 (Zb0 N) := ZaD (Zmp hcs Zcg Tryd.func117 (by kernel_rfl) (by kernel_rfl)) Zcg
noncomputable abbrev Zdx (N:Nat) : List (FuncId × Inl) := ((28, (inlOf Tryd.prog (Zas N) Zaw 64 100 (Zb0 N) Tryd.f28)) :: (Zb0 N))
theorem ZfS {w0:World} (N:Nat) (hcs:∀ x ∈ Zas N, SA w0 x.1 x.2) : AllOK Tryd.prog w0 Zaw 64 (Zdx N) := ZaD (Zmp hcs (Zc0 N hcs) Tryd.func28 (by kernel_rfl) (by kernel_rfl)) (Zc0 N hcs)
noncomputable abbrev Zbr (N:Nat) : List (FuncId × Inl) := (Zdx N)
theorem Zdi {w0:World} (N:Nat) (hcs:∀ x ∈ Zas N, SA w0 x.1 x.2) : AllOK Tryd.prog w0 Zaw 64 (Zbr N) := (ZfS N hcs)
def ZbV : Fm ((Unit × Unit × Unit × Unit × Unit × Nat × Int × Int)) ((List (LI) × List (LI) × (LI × LI × LI × LI × LI × LI × LI × Nat × Nat × LI × LI) × Nat × (Nat × LI))) := ⟨(.cons 1 (.lit (.ptr 88 [] 37)) (.cons 2 (.lit .nils) (.cons 3 (.lit (.int .i64 0)) (.cons 4 (.lit (.ptr 104 [] 29)) (.cons 5 (.lit (.clo 28 [(.ptr 104 [] 29)])) (.cons 60 (.slw 32 34) (.cons 61 (.int .i64) (.one 62 (.int .i64))))))))), (.cons 32 (.vec (.agg (.ints .u64 4))) (.cons 33 (.vec (.agg (.ints .u64 4))) (.cons 88 (.agg (.cons (.agg (.one (.ints .u64 4))) (.cons (.agg (.one (.ints .u64 4))) (.cons (.agg (.one (.ints .u64 4))) (.cons (.agg (.one (.ints .u64 4))) (.cons (.ints .u64 4) (.cons (.ints .u64 4) (.cons (.ints .u64 4) (.cons (.slw 32 34) (.cons (.slw 33 34) (.cons (.ints .u64 4) (.one (.ints .u64 4))))))))))))) (.cons 104 (.gsw 303 5) (.one 303 (.lst .u8))))))⟩
def ZbW : Fm ((Unit × Unit × Unit)) ((List (LI) × List (LI) × (LI × LI × LI × LI × LI × LI × LI × Nat × Nat × LI × LI) × Nat × (Nat × LI))) := ⟨(.cons 1 (.lit (.ptr 88 [] 37)) (.cons 4 (.lit (.ptr 104 [] 29)) (.one 5 (.lit (.clo 28 [(.ptr 104 [] 29)]))))), (.cons 32 (.vec (.agg (.ints .u64 4))) (.cons 33 (.vec (.agg (.ints .u64 4))) (.cons 88 (.agg (.cons (.agg (.one (.ints .u64 4))) (.cons (.agg (.one (.ints .u64 4))) (.cons (.agg (.one (.ints .u64 4))) (.cons (.agg (.one (.ints .u64 4))) (.cons (.ints .u64 4) (.cons (.ints .u64 4) (.cons (.ints .u64 4) (.cons (.slw 32 34) (.cons (.slw 33 34) (.cons (.ints .u64 4) (.one (.ints .u64 4))))))))))))) (.cons 104 (.gsw 303 5) (.one 303 (.lst .u8))))))⟩
def ZbX : Fm (Unit) (Unit) := ⟨.nil, .nil⟩
noncomputable def Zce (N:Nat) : List (Nat × Lf) := [(4, loopCt ZbV ZbW ZbX 308 (ZaF N) N)]
theorem Zfk (N:Nat) : StepIs Tryd.prog (cxIn Tryd.f7 (Zas N) Zaw 64 (Zbr N)) (Zce N) Tryd.f7 4 308 ZbV ZbW ZbX (ZaF N) := by
 intro v; kernel_rfl
theorem Zg6 (N:Nat) : IoRunIs Tryd.prog (Zas N) Zaw 64 (Zbr N) (Zce N) Tryd.f7 88 Zb9 Zca Zcb Zcc Zcd [32, 33] (fun x => Zah N x.1 x.2.1 x.2.2) := by
 intro x; kernel_rfl
theorem Zg7 {w0:World} (N:Nat)  (hcs:∀ x ∈ Zas N, SA w0 x.1 x.2) : Zao w0 N := by
 have L4 : ∀ w : Base, w.g = w0 → ∀ ρk, LoopOKX Tryd.prog (cxIn Tryd.f7 (Zas N) Zaw 64 (Zbr N)) w (Kp [32, 33] ρk) 4 (.loop (loopBody Tryd.f7 4)) (loopCt ZbV ZbW ZbX 308 (ZaF N) N) :=
  Zf6 hcs (Zdi N hcs) (ls := Zce N) (n := 100) (by kernel_rfl) (Zfk N) N fun w hw ρk => Zap (lp_no (by kernel_rfl) ZcK)
 exact Zb2 hcs (ZaP _ _) (Zdi N hcs) Tryd.func7 (by kernel_rfl) (by kernel_rfl) (fun w hw ρk => Zap (Zhk (L4 w hw ρk) (by kernel_rfl) ZcK)) (by kernel_rfl) (Zg6 N)
theorem Zg8 {w0:World} (N:Nat)  (ZaB:GO w0 Zbl) (Zak:GO w0 ZaL) : Zao w0 N :=
 Zg7 N (Zbw (ZjJ N ZaB Zak) ZbN)
def ZdD : Ag ((((Int × (LI × LI) × LI × List (LI)) × (Int × (LI × LI) × LI × List (LI)) × (Int × (LI × LI) × LI × List (LI)) × (Int × (LI × LI) × LI × List (LI))) × (LI × LI × LI) × List ((Int × (LI × LI) × LI × List (LI))) × (LI × LI))) := (.one (.agg (.cons (.agg (.cons (.agg (.cons (.int .i64) (.cons (.agg (.one (.agg (.cons (.ints .i64 10) (.one (.ints .i64 10)))))) (.cons (.ints .u64 4) (.one (.dvw 32 58 (.tc (.ints .u64 4)))))))) (.cons (.agg (.cons (.int .i64) (.cons (.agg (.one (.agg (.cons (.ints .i64 10) (.one (.ints .i64 10)))))) (.cons (.ints .u64 4) (.one (.dvw 33 58 (.tc (.ints .u64 4)))))))) (.cons (.agg (.cons (.int .i64) (.cons (.agg (.one (.agg (.cons (.ints .i64 10) (.one (.ints .i64 10)))))) (.cons (.ints .u64 4) (.one (.dvw 34 58 (.tc (.ints .u64 4)))))))) (.one (.agg (.cons (.int .i64) (.cons (.agg (.one (.agg (.cons (.ints .i64 10) (.one (.ints .i64 10)))))) (.cons (.ints .u64 4) (.one (.dvw 35 58 (.tc (.ints .u64 4))))))))))))) (.cons (.agg (.cons (.ints .u64 4) (.cons (.ints .u64 4) (.one (.ints .u64 4))))) (.cons (.dvw 36 61 (.agg (.cons (.tc (.int .i64)) (.cons (.tc (.agg (.agg (.cons (.ints .i64 10) (.ints .i64 10))))) (.cons (.tc (.ints .u64 4)) (.row (.tc (.ints .u64 4)) 58)))))) (.one (.agg (.cons (.ints .u64 4) (.one (.ints .u64 4))))))))))
def ZdE : Ent (Unit) := .nil
def ZdF : Ent (Unit) := .nil
def ZdG : Pt (Nat) := (.gsw 64 5)
def ZdH : Ent ((Nat × LI)) := (.one 64 (.lst .u8))
abbrev Zby (w0:World) (N:Nat) : Prop := SoundIo Tryd.prog w0 18 64 88 ZdD ZdE ZdF ZdG ZdH [] (fun x => ZbI N x.1 x.2.1 x.2.2)
def Za1 (N:Nat) : List (FuncId × Ct) := [(41, (Zc1 N))]
def Zbj : List Gv := []
noncomputable abbrev Zfl (N:Nat) : List (FuncId × Inl) := ((40, (inlOf Tryd.prog (Za1 N) Zbj 64 100 [] Tryd.f40)) :: [])
theorem ZhI {w0:World} (N:Nat) (hcs:∀ x ∈ Za1 N, SA w0 x.1 x.2) : AllOK Tryd.prog w0 Zbj 64 (Zfl N) := ZaD (Zmp hcs Zcg Tryd.func40 (by kernel_rfl) (by kernel_rfl)) Zcg
noncomputable abbrev Zcs (N:Nat) : List (FuncId × Inl) := (Zfl N)
theorem ZeQ {w0:World} (N:Nat) (hcs:∀ x ∈ Za1 N, SA w0 x.1 x.2) : AllOK Tryd.prog w0 Zbj 64 (Zcs N) := (ZhI N hcs)
def Zc6 : Fm ((Unit × Unit × Nat × Int)) (((Nat × LI) × (((Int × (LI × LI) × LI × List (LI)) × (Int × (LI × LI) × LI × List (LI)) × (Int × (LI × LI) × LI × List (LI)) × (Int × (LI × LI) × LI × List (LI))) × (LI × LI × LI) × List ((Int × (LI × LI) × LI × List (LI))) × (LI × LI)))) := ⟨(.cons 1 (.lit (.ptr 88 [] 67)) (.cons 2 (.lit .nils) (.cons 3 (.gsw 64 5) (.one 8 (.int .i64))))), (.cons 64 (.lst .u8) (.one 88 (.agg (.cons (.agg (.cons (.agg (.cons (.int .i64) (.cons (.agg (.one (.agg (.cons (.ints .i64 10) (.one (.ints .i64 10)))))) (.cons (.ints .u64 4) (.one (.dvw 32 58 (.tc (.ints .u64 4)))))))) (.cons (.agg (.cons (.int .i64) (.cons (.agg (.one (.agg (.cons (.ints .i64 10) (.one (.ints .i64 10)))))) (.cons (.ints .u64 4) (.one (.dvw 33 58 (.tc (.ints .u64 4)))))))) (.cons (.agg (.cons (.int .i64) (.cons (.agg (.one (.agg (.cons (.ints .i64 10) (.one (.ints .i64 10)))))) (.cons (.ints .u64 4) (.one (.dvw 34 58 (.tc (.ints .u64 4)))))))) (.one (.agg (.cons (.int .i64) (.cons (.agg (.one (.agg (.cons (.ints .i64 10) (.one (.ints .i64 10)))))) (.cons (.ints .u64 4) (.one (.dvw 35 58 (.tc (.ints .u64 4))))))))))))) (.cons (.agg (.cons (.ints .u64 4) (.cons (.ints .u64 4) (.one (.ints .u64 4))))) (.cons (.dvw 36 61 (.agg (.cons (.tc (.int .i64)) (.cons (.tc (.agg (.agg (.cons (.ints .i64 10) (.ints .i64 10))))) (.cons (.tc (.ints .u64 4)) (.row (.tc (.ints .u64 4)) 58)))))) (.one (.agg (.cons (.ints .u64 4) (.one (.ints .u64 4)))))))))))⟩
def Zc7 : Fm ((Unit × Nat)) (((Nat × LI) × (((Int × (LI × LI) × LI × List (LI)) × (Int × (LI × LI) × LI × List (LI)) × (Int × (LI × LI) × LI × List (LI)) × (Int × (LI × LI) × LI × List (LI))) × (LI × LI × LI) × List ((Int × (LI × LI) × LI × List (LI))) × (LI × LI)))) := ⟨(.cons 1 (.lit (.ptr 88 [] 67)) (.one 3 (.gsw 64 5))), (.cons 64 (.lst .u8) (.one 88 (.agg (.cons (.agg (.cons (.agg (.cons (.int .i64) (.cons (.agg (.one (.agg (.cons (.ints .i64 10) (.one (.ints .i64 10)))))) (.cons (.ints .u64 4) (.one (.dvw 32 58 (.tc (.ints .u64 4)))))))) (.cons (.agg (.cons (.int .i64) (.cons (.agg (.one (.agg (.cons (.ints .i64 10) (.one (.ints .i64 10)))))) (.cons (.ints .u64 4) (.one (.dvw 33 58 (.tc (.ints .u64 4)))))))) (.cons (.agg (.cons (.int .i64) (.cons (.agg (.one (.agg (.cons (.ints .i64 10) (.one (.ints .i64 10)))))) (.cons (.ints .u64 4) (.one (.dvw 34 58 (.tc (.ints .u64 4)))))))) (.one (.agg (.cons (.int .i64) (.cons (.agg (.one (.agg (.cons (.ints .i64 10) (.one (.ints .i64 10)))))) (.cons (.ints .u64 4) (.one (.dvw 35 58 (.tc (.ints .u64 4))))))))))))) (.cons (.agg (.cons (.ints .u64 4) (.cons (.ints .u64 4) (.one (.ints .u64 4))))) (.cons (.dvw 36 61 (.agg (.cons (.tc (.int .i64)) (.cons (.tc (.agg (.agg (.cons (.ints .i64 10) (.ints .i64 10))))) (.cons (.tc (.ints .u64 4)) (.row (.tc (.ints .u64 4)) 58)))))) (.one (.agg (.cons (.ints .u64 4) (.one (.ints .u64 4)))))))))))⟩
def Zc8 : Fm (Unit) (Unit) := ⟨.nil, .nil⟩
noncomputable def ZdI (N:Nat) : List (Nat × Lf) := [(4, loopCt Zc6 Zc7 Zc8 93 (Za2 N) N)]
theorem Zhf (N:Nat) : StepIs Tryd.prog (cxIn Tryd.f18 (Za1 N) Zbj 64 (Zcs N)) (ZdI N) Tryd.f18 4 93 Zc6 Zc7 Zc8 (Za2 N) := by
 intro v; kernel_rfl
theorem Zjf (N:Nat) : IoRunIs Tryd.prog (Za1 N) Zbj 64 (Zcs N) (ZdI N) Tryd.f18 88 ZdD ZdE ZdF ZdG ZdH [] (fun x => ZbI N x.1 x.2.1 x.2.2) := by
 intro x; kernel_rfl
theorem Zjg {w0:World} (N:Nat)  (hcs:∀ x ∈ Za1 N, SA w0 x.1 x.2) : Zby w0 N := by
 have L4 : ∀ w : Base, w.g = w0 → ∀ ρk, LoopOKX Tryd.prog (cxIn Tryd.f18 (Za1 N) Zbj 64 (Zcs N)) w (Kp [] ρk) 4 (.loop (loopBody Tryd.f18 4)) (loopCt Zc6 Zc7 Zc8 93 (Za2 N) N) :=
  Zf6 hcs (ZeQ N hcs) (ls := ZdI N) (n := 100) (by kernel_rfl) (Zhf N) N fun w hw ρk => Zap (lp_no (by kernel_rfl) ZcK)
 exact Zb2 hcs (ZaP _ _) (ZeQ N hcs) Tryd.func18 (by kernel_rfl) (by kernel_rfl) (fun w hw ρk => Zap (Zhk (L4 w hw ρk) (by kernel_rfl) ZcK)) (by kernel_rfl) (Zjf N)
theorem Zjh {w0:World} (N:Nat)  : Zby w0 N :=
 Zjg N (Zbw (Zio N) ZbN)
def ZcC : Ag (((LI × LI × LI × LI) × LI × LI × LI × List (LI) × List (LI) × LI × LI)) := (.one (.agg (.cons (.agg (.cons (.ints .u64 4) (.cons (.ints .u64 4) (.cons (.ints .u64 4) (.one (.ints .u64 4)))))) (.cons (.ints .u64 4) (.cons (.ints .u64 4) (.cons (.ints .u64 4) (.cons (.dvw 32 24 (.tc (.ints .u64 4))) (.cons (.dvw 33 24 (.tc (.ints .u64 4))) (.cons (.ints .u64 4) (.one (.ints .u64 4)))))))))))
def ZcD : Ent (Unit) := .nil
def ZcE : Ent (Unit) := .nil
def ZcF : Pt (Nat) := (.gsw 64 5)
def ZcG : Ent ((Nat × LI)) := (.one 64 (.lst .u8))
abbrev Zaq (w0:World) (N:Nat) : Prop := SoundIo Tryd.prog w0 10 64 88 ZcC ZcD ZcE ZcF ZcG [] (fun x => ZaR N x.1 x.2.1 x.2.2)
def ZaZ (N:Nat) : List (FuncId × Ct) := [(31, Zfz), (32, (Zf2 N))]
def Zbi : List Gv := []
noncomputable abbrev Zec (N:Nat) : List (FuncId × Inl) := ((18, (Inl.ct Tryd.prog 64 64 88 ZdD ZdE ZdF ZdG ZdH [] (fun x => ZbI N x.1 x.2.1 x.2.2))) :: [])
theorem ZgN {w0:World} (N:Nat) (hcs:∀ x ∈ ZaZ N, SA w0 x.1 x.2) (hf18:Zby w0 N) : AllOK Tryd.prog w0 Zbi 64 (Zec N) := ZaD (Zeu hf18 (by kernel_rfl) rfl) Zcg
noncomputable abbrev ZbM (N:Nat) : List (FuncId × Inl) := (Zec N)
theorem ZdQ {w0:World} (N:Nat) (hcs:∀ x ∈ ZaZ N, SA w0 x.1 x.2) (hf18:Zby w0 N) : AllOK Tryd.prog w0 Zbi 64 (ZbM N) := (ZgN N hcs hf18)
def Zci : Fm ((Unit × Unit × Unit × Int)) ((Unit × ((LI × LI × LI × LI) × LI × LI × LI × List (LI) × List (LI) × LI × LI) × (((Int × (LI × LI) × LI × Unit) × (Int × (LI × LI) × LI × Unit) × (Int × (LI × LI) × LI × Unit) × (Int × (LI × LI) × LI × Unit)) × (LI × LI × LI) × List ((Int × (LI × LI) × LI × List (LI))) × (LI × LI)))) := ⟨(.cons 1 (.lit (.ptr 88 [] 28)) (.cons 2 (.lit .nils) (.cons 3 (.lit (.ptr 90 [] 67)) (.one 5 (.int .i64))))), (.cons 64 (.lit (.dc (.agg (.cons (.tc (.int .i64)) (.cons (.tc (.agg (.agg (.cons (.ints .i64 10) (.ints .i64 10))))) (.cons (.tc (.ints .u64 4)) (.row (.tc (.ints .u64 4)) 58))))) [])) (.cons 88 (.agg (.cons (.agg (.cons (.ints .u64 4) (.cons (.ints .u64 4) (.cons (.ints .u64 4) (.one (.ints .u64 4)))))) (.cons (.ints .u64 4) (.cons (.ints .u64 4) (.cons (.ints .u64 4) (.cons (.dvw 32 24 (.tc (.ints .u64 4))) (.cons (.dvw 33 24 (.tc (.ints .u64 4))) (.cons (.ints .u64 4) (.one (.ints .u64 4)))))))))) (.one 90 (.agg (.cons (.agg (.cons (.agg (.cons (.int .i64) (.cons (.agg (.one (.agg (.cons (.ints .i64 10) (.one (.ints .i64 10)))))) (.cons (.ints .u64 4) (.one (.lit .nils)))))) (.cons (.agg (.cons (.int .i64) (.cons (.agg (.one (.agg (.cons (.ints .i64 10) (.one (.ints .i64 10)))))) (.cons (.ints .u64 4) (.one (.lit .nils)))))) (.cons (.agg (.cons (.int .i64) (.cons (.agg (.one (.agg (.cons (.ints .i64 10) (.one (.ints .i64 10)))))) (.cons (.ints .u64 4) (.one (.lit .nils)))))) (.one (.agg (.cons (.int .i64) (.cons (.agg (.one (.agg (.cons (.ints .i64 10) (.one (.ints .i64 10)))))) (.cons (.ints .u64 4) (.one (.lit .nils))))))))))) (.cons (.agg (.cons (.ints .u64 4) (.cons (.ints .u64 4) (.one (.ints .u64 4))))) (.cons (.dvw 64 61 (.agg (.cons (.tc (.int .i64)) (.cons (.tc (.agg (.agg (.cons (.ints .i64 10) (.ints .i64 10))))) (.cons (.tc (.ints .u64 4)) (.row (.tc (.ints .u64 4)) 58)))))) (.one (.agg (.cons (.ints .u64 4) (.one (.ints .u64 4))))))))))))⟩
def Zcj : Fm ((Unit × Unit)) ((Unit × ((LI × LI × LI × LI) × LI × LI × LI × List (LI) × List (LI) × LI × LI) × (((Int × (LI × LI) × LI × Unit) × (Int × (LI × LI) × LI × Unit) × (Int × (LI × LI) × LI × Unit) × (Int × (LI × LI) × LI × Unit)) × (LI × LI × LI) × List ((Int × (LI × LI) × LI × List (LI))) × (LI × LI)))) := ⟨(.cons 1 (.lit (.ptr 88 [] 28)) (.one 3 (.lit (.ptr 90 [] 67)))), (.cons 64 (.lit (.dc (.agg (.cons (.tc (.int .i64)) (.cons (.tc (.agg (.agg (.cons (.ints .i64 10) (.ints .i64 10))))) (.cons (.tc (.ints .u64 4)) (.row (.tc (.ints .u64 4)) 58))))) [])) (.cons 88 (.agg (.cons (.agg (.cons (.ints .u64 4) (.cons (.ints .u64 4) (.cons (.ints .u64 4) (.one (.ints .u64 4)))))) (.cons (.ints .u64 4) (.cons (.ints .u64 4) (.cons (.ints .u64 4) (.cons (.dvw 32 24 (.tc (.ints .u64 4))) (.cons (.dvw 33 24 (.tc (.ints .u64 4))) (.cons (.ints .u64 4) (.one (.ints .u64 4)))))))))) (.one 90 (.agg (.cons (.agg (.cons (.agg (.cons (.int .i64) (.cons (.agg (.one (.agg (.cons (.ints .i64 10) (.one (.ints .i64 10)))))) (.cons (.ints .u64 4) (.one (.lit .nils)))))) (.cons (.agg (.cons (.int .i64) (.cons (.agg (.one (.agg (.cons (.ints .i64 10) (.one (.ints .i64 10)))))) (.cons (.ints .u64 4) (.one (.lit .nils)))))) (.cons (.agg (.cons (.int .i64) (.cons (.agg (.one (.agg (.cons (.ints .i64 10) (.one (.ints .i64 10)))))) (.cons (.ints .u64 4) (.one (.lit .nils)))))) (.one (.agg (.cons (.int .i64) (.cons (.agg (.one (.agg (.cons (.ints .i64 10) (.one (.ints .i64 10)))))) (.cons (.ints .u64 4) (.one (.lit .nils))))))))))) (.cons (.agg (.cons (.ints .u64 4) (.cons (.ints .u64 4) (.one (.ints .u64 4))))) (.cons (.dvw 64 61 (.agg (.cons (.tc (.int .i64)) (.cons (.tc (.agg (.agg (.cons (.ints .i64 10) (.ints .i64 10))))) (.cons (.tc (.ints .u64 4)) (.row (.tc (.ints .u64 4)) 58)))))) (.one (.agg (.cons (.ints .u64 4) (.one (.ints .u64 4))))))))))))⟩
def Zck : Fm (Unit) (Unit) := ⟨.nil, .nil⟩
noncomputable def ZcH (N:Nat) : List (Nat × Lf) := [(2, loopCt Zci Zcj Zck 95 (ZaQ N) N)]
theorem Zga (N:Nat) : StepIs Tryd.prog (cxIn Tryd.f10 (ZaZ N) Zbi 64 (ZbM N)) (ZcH N) Tryd.f10 2 95 Zci Zcj Zck (ZaQ N) := by
 intro v; kernel_rfl
theorem ZhJ (N:Nat) : IoRunIs Tryd.prog (ZaZ N) Zbi 64 (ZbM N) (ZcH N) Tryd.f10 88 ZcC ZcD ZcE ZcF ZcG [] (fun x => ZaR N x.1 x.2.1 x.2.2) := by
 intro x; kernel_rfl
theorem ZhK {w0:World} (N:Nat)  (hcs:∀ x ∈ ZaZ N, SA w0 x.1 x.2) (hf18:Zby w0 N) : Zaq w0 N := by
 have L2 : ∀ w : Base, w.g = w0 → ∀ ρk, LoopOKX Tryd.prog (cxIn Tryd.f10 (ZaZ N) Zbi 64 (ZbM N)) w (Kp [] ρk) 2 (.loop (loopBody Tryd.f10 2)) (loopCt Zci Zcj Zck 95 (ZaQ N) N) :=
  Zf6 hcs (ZdQ N hcs hf18) (ls := ZcH N) (n := 100) (by kernel_rfl) (Zga N) N fun w hw ρk => Zap (lp_no (by kernel_rfl) ZcK)
 exact Zb2 hcs (ZaP _ _) (ZdQ N hcs hf18) Tryd.func10 (by kernel_rfl) (by kernel_rfl) (fun w hw ρk => Zap (Zhk (L2 w hw ρk) (by kernel_rfl) ZcK)) (by kernel_rfl) (ZhJ N)
theorem ZhL {w0:World} (N:Nat)  : Zaq w0 N :=
 ZhK N (Zbw (Zls) (Zbw (ZlY N) ZbN)) (Zjh N)
abbrev ZnV : Ag (((Nat × LI) × Unit)) := (.one (.tup (.cons (.lst .u8) (.one (.lit (.clo 5 []))))))
abbrev ZnW : Pt (ByteArray) := .str
def Zk1 (N:Nat) : Ct := fct ZnV ZnW fun x => Zkr N x
def Zji (N:Nat) : List (FuncId × Ct) := []
def Zk2 : List Gv := []
def Zjj : Fm ((ByteArray × Nat × Nat × Int × Int)) (((Nat × LI) × (Nat × LI))) := ⟨(.cons 2 .str (.cons 3 (.gsw 5 5) (.cons 10 (.slw 0 5) (.cons 11 (.int .i64) (.one 12 (.int .i64)))))), (.cons 0 (.lst .u8) (.one 5 (.lst .u8)))⟩
def Zjk : Fm (Nat) ((Nat × LI)) := ⟨(.one 3 (.gsw 5 5)), (.one 5 (.lst .u8))⟩
def Zjl : Fm (Unit) (Unit) := ⟨.nil, .nil⟩
noncomputable def Zk3 (N:Nat) : List (Nat × Lf) := [(0, loopCt Zjj Zjk Zjl 10 (ZfB N) N)]
theorem ZmK (N:Nat) : StepIs Tryd.prog (cxOf Tryd.f12 (Zji N) Zk2 1) (Zk3 N) Tryd.f12 0 10 Zjj Zjk Zjl (ZfB N) := by
 intro v; kernel_rfl
theorem Zro (N:Nat) : RunIs Tryd.prog (Zji N) Zk2 1 (Zk3 N) Tryd.f12 ZnV ZnW (fun x => Zkr N x) := by
 intro x; kernel_rfl
theorem Zrp {w0:World} (N:Nat)  (hcs:∀ x ∈ Zji N, SA w0 x.1 x.2) : SA w0 12 (Zk1 N) := by
 have L0 : ∀ w : Base, w.g = w0 → LoopOK Tryd.prog (cxOf Tryd.f12 (Zji N) Zk2 1) w 0 (.loop (loopBody Tryd.f12 0)) (loopCt Zjj Zjk Zjl 10 (ZfB N) N) :=
  ZcJ hcs (ls := Zk3 N) (n := 100) (by kernel_rfl) (ZmK N) N fun w hw => Zap (lp_no (by kernel_rfl) ZcK)
 exact Za0 hcs (ZaP _ _) Tryd.func12 (by kernel_rfl) (by kernel_rfl) (S := 1) (fun w hw => Zap (Zhk (L0 w hw) (by kernel_rfl) ZcK)) (fun _ => rfl) (Zro N)
theorem Zrq {w0:World} (N:Nat)  : SA w0 12 (Zk1 N) :=
 Zrp N ZbN
abbrev Zka : Ag (((Nat × LI) × Unit)) := (.one (.tup (.cons (.lst .u8) (.one (.lit (.clo 5 []))))))
abbrev Zkb : Pt (ByteArray) := .str
def Zhg (N:Nat) : Ct := fct Zka Zkb fun x => ZeH N x
def Zfs (N:Nat) : List (FuncId × Ct) := []
def Zhh : List Gv := []
def Zgb : Fm ((Nat × ByteArray × ByteArray × Int)) ((Nat × LI)) := ⟨(.cons 0 (.slw 0 5) (.cons 2 .str (.cons 3 .str (.one 4 (.int .i64))))), (.one 0 (.lst .u8))⟩
def Zgc : Fm (ByteArray) (Unit) := ⟨(.one 3 .str), .nil⟩
def Zgd : Fm (Unit) (Unit) := ⟨.nil, .nil⟩
noncomputable def Zhi (N:Nat) : List (Nat × Lf) := [(0, loopCt Zgb Zgc Zgd 4 (Zcv N) N)]
theorem Zkc (N:Nat) : StepIs Tryd.prog (cxOf Tryd.f13 (Zfs N) Zhh 1) (Zhi N) Tryd.f13 0 4 Zgb Zgc Zgd (Zcv N) := by
 intro v; kernel_rfl
theorem ZmY (N:Nat) : RunIs Tryd.prog (Zfs N) Zhh 1 (Zhi N) Tryd.f13 Zka Zkb (fun x => ZeH N x) := by
 intro x; kernel_rfl
theorem ZmZ {w0:World} (N:Nat)  (hcs:∀ x ∈ Zfs N, SA w0 x.1 x.2) : SA w0 13 (Zhg N) := by
 have L0 : ∀ w : Base, w.g = w0 → LoopOK Tryd.prog (cxOf Tryd.f13 (Zfs N) Zhh 1) w 0 (.loop (loopBody Tryd.f13 0)) (loopCt Zgb Zgc Zgd 4 (Zcv N) N) :=
  ZcJ hcs (ls := Zhi N) (n := 100) (by kernel_rfl) (Zkc N) N fun w hw => Zap (lp_no (by kernel_rfl) ZcK)
 exact Za0 hcs (ZaP _ _) Tryd.func13 (by kernel_rfl) (by kernel_rfl) (S := 1) (fun w hw => Zap (Zhk (L0 w hw) (by kernel_rfl) ZcK)) (fun _ => rfl) (ZmY N)
theorem Zm0 {w0:World} (N:Nat)  : SA w0 13 (Zhg N) :=
 ZmZ N ZbN
abbrev Zge : Ag ((Unit × Int)) := (.cons (.lit .nils) (.one (.int .u64)))
abbrev Zgf : Pt (((Nat × LI) × Unit)) := (.tup (.cons (.lst .u8) (.one (.lit (.clo 5 [])))))
def ZdJ (N:Nat) : Ct := fct Zge Zgf fun x => Zcl N x.1 x.2
def ZaK (N:Nat) : List (FuncId × Ct) := []
def ZaU : List Gv := []
noncomputable abbrev Zdr (N:Nat) : List (FuncId × Inl) := ((56, inlOf Tryd.prog (ZaK N) ZaU 0 100 [] Tryd.f56) :: [])
theorem ZhM (N:Nat) : InlAll Tryd.prog (ZaK N) ZaU 0 100 (Zdr N) := ⟨⟨Tryd.f56, Tryd.func56, by kernel_rfl, by kernel_rfl, rfl⟩, trivial⟩
noncomputable abbrev Zfm (N:Nat) : List (FuncId × Inl) := ((43, inlOf Tryd.prog (ZaK N) ZaU 0 100 (Zdr N) Tryd.f43) :: (Zdr N))
theorem ZhN (N:Nat) : InlAll Tryd.prog (ZaK N) ZaU 0 100 (Zfm N) := ⟨⟨Tryd.f43, Tryd.func43, by kernel_rfl, by kernel_rfl, rfl⟩, (ZhM N)⟩
noncomputable abbrev Zct (N:Nat) : List (FuncId × Inl) := (Zfm N)
theorem ZeR (N:Nat) : InlAll Tryd.prog (ZaK N) ZaU 0 100 (Zct N) := (ZhN N)
def Zc9 : Fm ((Int × Unit × Nat)) ((Nat × LI)) := ⟨(.cons 1 (.int .u64) (.cons 4 (.lit .nils) (.one 5 (.gsw 0 5)))), (.one 0 (.lst .u8))⟩
def Zda : Fm ((Int × Nat)) ((Nat × LI)) := ⟨(.cons 1 (.int .u64) (.one 5 (.gsw 0 5))), (.one 0 (.lst .u8))⟩
def Zdb : Fm (Unit) (Unit) := ⟨.nil, .nil⟩
noncomputable def ZdK (N:Nat) : List (Nat × Lf) := [(0, loopCt Zc9 Zda Zdb 4 (Za3 N) N)]
theorem Zhj (N:Nat) : StepIs Tryd.prog (cxIn Tryd.f20 (ZaK N) ZaU 0 (Zct N)) (ZdK N) Tryd.f20 0 4 Zc9 Zda Zdb (Za3 N) := by
 intro v; kernel_rfl
theorem Zjm (N:Nat) : RunIs Tryd.prog (ZaK N) ZaU 0 (ZdK N) Tryd.f20 Zge Zgf (fun x => Zcl N x.1 x.2) (fun g => lkI g (Zct N)) := by
 intro x; kernel_rfl
theorem Zjn {w0:World} (N:Nat)  (hcs:∀ x ∈ ZaK N, SA w0 x.1 x.2) : SA w0 20 (ZdJ N) := by
 have L0 : ∀ w : Base, w.g = w0 → LoopOK Tryd.prog (cxIn Tryd.f20 (ZaK N) ZaU 0 (Zct N)) w 0 (.loop (loopBody Tryd.f20 0)) (loopCt Zc9 Zda Zdb 4 (Za3 N) N) :=
  Zor hcs (ZeR N) (ls := ZdK N) (n := 100) (by kernel_rfl) (Zhj N) N fun w hw => Zap (lp_no (by kernel_rfl) ZcK)
 exact Zqc hcs (ZaP _ _) (ZeR N) Tryd.func20 (by kernel_rfl) (by kernel_rfl) (S := 0) (fun w hw => Zap (Zhk (L0 w hw) (by kernel_rfl) ZcK)) (fun _ => rfl) (Zjm N)
theorem Zjo {w0:World} (N:Nat)  : SA w0 20 (ZdJ N) :=
 Zjn N ZbN
abbrev Zgu : Ag ((Unit × ((Nat × LI) × Unit))) := (.cons (.lit .nils) (.one (.tup (.cons (.lst .u8) (.one (.lit (.clo 5 [])))))))
abbrev Zgv : Pt (((Nat × LI) × Unit)) := (.tup (.cons (.lst .u8) (.one (.lit (.clo 5 [])))))
def Zd6 (N:Nat) : Ct := fct Zgu Zgv fun x => ZbZ N x.1 x.2
def Zgg (N:Nat) : List (FuncId × Ct) := [(20, (ZdJ N))]
def Zjp : List Gv := []
noncomputable def Zjq (N:Nat) : List (Nat × Lf) := []
theorem ZjR (N:Nat) : RunIs Tryd.prog (Zgg N) Zjp 1 (Zjq N) Tryd.f14 Zgu Zgv (fun x => ZbZ N x.1 x.2) := by
 intro x; kernel_rfl
theorem ZjS {w0:World} (N:Nat)  (hcs:∀ x ∈ Zgg N, SA w0 x.1 x.2) : SA w0 14 (Zd6 N) := by
 exact Za0 hcs (ZaP _ _) Tryd.func14 (by kernel_rfl) (by kernel_rfl) (S := 1) (fun w _ => ZaS _) (fun _ => rfl) (ZjR N)
theorem ZjT {w0:World} (N:Nat)  : SA w0 14 (Zd6 N) :=
 ZjS N (Zbw (Zjo N) ZbN)
abbrev Zic : Ag (Int) := (.one (.int .u64))
abbrev Zid : Pt (((Nat × LI) × Unit)) := (.tup (.cons (.lst .u8) (.one (.lit (.clo 5 [])))))
def ZfC (N:Nat) : Ct := fct Zic Zid fun x => Zdd N x
def Zd7 (N:Nat) : List (FuncId × Ct) := []
def ZfD : List Gv := []
def Zey : Fm ((Int × Unit × Nat)) ((Nat × LI)) := ⟨(.cons 0 (.int .u64) (.cons 2 (.lit .nils) (.one 3 (.gsw 0 5)))), (.one 0 (.lst .u8))⟩
def Zez : Fm ((Int × Nat)) ((Nat × LI)) := ⟨(.cons 0 (.int .u64) (.one 3 (.gsw 0 5))), (.one 0 (.lst .u8))⟩
def ZeA : Fm (Unit) (Unit) := ⟨.nil, .nil⟩
noncomputable def ZfE (N:Nat) : List (Nat × Lf) := [(0, loopCt Zey Zez ZeA 2 (ZbA N) N)]
theorem ZiS (N:Nat) : StepIs Tryd.prog (cxOf Tryd.f36 (Zd7 N) ZfD 0) (ZfE N) Tryd.f36 0 2 Zey Zez ZeA (ZbA N) := by
 intro v; kernel_rfl
theorem Zlv (N:Nat) : RunIs Tryd.prog (Zd7 N) ZfD 0 (ZfE N) Tryd.f36 Zic Zid (fun x => Zdd N x) := by
 intro x; kernel_rfl
theorem Zlw {w0:World} (N:Nat)  (hcs:∀ x ∈ Zd7 N, SA w0 x.1 x.2) : SA w0 36 (ZfC N) := by
 have L0 : ∀ w : Base, w.g = w0 → LoopOK Tryd.prog (cxOf Tryd.f36 (Zd7 N) ZfD 0) w 0 (.loop (loopBody Tryd.f36 0)) (loopCt Zey Zez ZeA 2 (ZbA N) N) :=
  ZcJ hcs (ls := ZfE N) (n := 100) (by kernel_rfl) (ZiS N) N fun w hw => Zap (lp_no (by kernel_rfl) ZcK)
 exact Za0 hcs (ZaP _ _) Tryd.func36 (by kernel_rfl) (by kernel_rfl) (S := 0) (fun w hw => Zap (Zhk (L0 w hw) (by kernel_rfl) ZcK)) (fun _ => rfl) (Zlv N)
theorem Zlx {w0:World} (N:Nat)  : SA w0 36 (ZfC N) :=
 Zlw N ZbN
def Zgw : Ag ((((LI × LI × LI × LI) × LI × LI × LI × List (LI) × List (LI) × LI × LI) × ((LI × LI × LI × LI) × LI × LI × LI × List (LI) × List (LI) × LI × LI) × List (Int))) := (.cons (.agg (.cons (.agg (.cons (.ints .u64 4) (.cons (.ints .u64 4) (.cons (.ints .u64 4) (.one (.ints .u64 4)))))) (.cons (.ints .u64 4) (.cons (.ints .u64 4) (.cons (.ints .u64 4) (.cons (.dvw 32 24 (.tc (.ints .u64 4))) (.cons (.dvw 33 24 (.tc (.ints .u64 4))) (.cons (.ints .u64 4) (.one (.ints .u64 4)))))))))) (.cons (.agg (.cons (.agg (.cons (.ints .u64 4) (.cons (.ints .u64 4) (.cons (.ints .u64 4) (.one (.ints .u64 4)))))) (.cons (.ints .u64 4) (.cons (.ints .u64 4) (.cons (.ints .u64 4) (.cons (.dvw 34 24 (.tc (.ints .u64 4))) (.cons (.dvw 35 24 (.tc (.ints .u64 4))) (.cons (.ints .u64 4) (.one (.ints .u64 4)))))))))) (.one (.dvw 36 5 (.tc (.int .u8))))))
def Zgx : Ent (Unit) := .nil
def Zgy : Ent (Unit) := .nil
def Zgz : Pt (Bool) := .bool
def ZgA : Ent (Unit) := .nil
abbrev Zgh (w0:World) (N:Nat) : Prop := SoundIo Tryd.prog w0 4 64 88 Zgw Zgx Zgy Zgz ZgA [] (fun x => Zd8 N x.1 x.2.1 x.2.2)
def Zau (N:Nat) : List (FuncId × Ct) := [(12, (Zk1 N)), (13, (Zhg N)), (14, (Zd6 N)), (36, (ZfC N))]
def Zaz : List Gv := []
noncomputable abbrev Zgi (N:Nat) : List (FuncId × Inl) := ((10, (Inl.ct Tryd.prog 64 64 88 ZcC ZcD ZcE ZcF ZcG [] (fun x => ZaR N x.1 x.2.1 x.2.2))) :: [])
theorem Zis {w0:World} (N:Nat) (hcs:∀ x ∈ Zau N, SA w0 x.1 x.2) (hf10:Zaq w0 N) (hf11:Zan w0 N) (hf7:Zao w0 N) (hf8:Zat w0 N) : AllOK Tryd.prog w0 Zaz 64 (Zgi N) := ZaD (Zeu hf10 (by kernel_rfl) rfl) Zcg
noncomputable abbrev Zgj (N:Nat) : List (FuncId × Inl) := ((11, (Inl.ct Tryd.prog 64 64 88 Zb3 Zb4 Zb5 Zb6 Zb7 [32] (fun x => Zax N x.1 x.2.1 x.2.2))) :: (Zgi N))
theorem Zit {w0:World} (N:Nat) (hcs:∀ x ∈ Zau N, SA w0 x.1 x.2) (hf10:Zaq w0 N) (hf11:Zan w0 N) (hf7:Zao w0 N) (hf8:Zat w0 N) : AllOK Tryd.prog w0 Zaz 64 (Zgj N) := ZaD (Zeu hf11 (by kernel_rfl) rfl) (Zis N hcs hf10 hf11 hf7 hf8)
noncomputable abbrev Zgk (N:Nat) : List (FuncId × Inl) := ((7, (Inl.ct Tryd.prog 64 64 88 Zb9 Zca Zcb Zcc Zcd [32, 33] (fun x => Zah N x.1 x.2.1 x.2.2))) :: (Zgj N))
theorem Ziu {w0:World} (N:Nat) (hcs:∀ x ∈ Zau N, SA w0 x.1 x.2) (hf10:Zaq w0 N) (hf11:Zan w0 N) (hf7:Zao w0 N) (hf8:Zat w0 N) : AllOK Tryd.prog w0 Zaz 64 (Zgk N) := ZaD (Zeu hf7 (by kernel_rfl) rfl) (Zit N hcs hf10 hf11 hf7 hf8)
noncomputable abbrev Zd9 (N:Nat) : List (FuncId × Inl) := ((8, (Inl.ct Tryd.prog 64 64 88 ZcR ZcS ZcT ZcU ZcV [] (fun x => ZaJ N x.1 x.2.1 x.2.2))) :: (Zgk N))
theorem Zfn {w0:World} (N:Nat) (hcs:∀ x ∈ Zau N, SA w0 x.1 x.2) (hf10:Zaq w0 N) (hf11:Zan w0 N) (hf7:Zao w0 N) (hf8:Zat w0 N) : AllOK Tryd.prog w0 Zaz 64 (Zd9 N) := ZaD (Zeu hf8 (by kernel_rfl) rfl) (Ziu N hcs hf10 hf11 hf7 hf8)
noncomputable abbrev Zea (N:Nat) : List (FuncId × Inl) := ((9, (inlOf Tryd.prog (Zau N) Zaz 64 100 (Zd9 N) Tryd.f9)) :: (Zd9 N))
theorem Zfo {w0:World} (N:Nat) (hcs:∀ x ∈ Zau N, SA w0 x.1 x.2) (hf10:Zaq w0 N) (hf11:Zan w0 N) (hf7:Zao w0 N) (hf8:Zat w0 N) : AllOK Tryd.prog w0 Zaz 64 (Zea N) := ZaD (Zmp hcs (Zfn N hcs hf10 hf11 hf7 hf8) Tryd.func9 (by kernel_rfl) (by kernel_rfl)) (Zfn N hcs hf10 hf11 hf7 hf8)
noncomputable abbrev Zgl (N:Nat) : List (FuncId × Inl) := ((15, (inlOf Tryd.prog (Zau N) Zaz 64 100 (Zea N) Tryd.f15)) :: (Zea N))
theorem Ziv {w0:World} (N:Nat) (hcs:∀ x ∈ Zau N, SA w0 x.1 x.2) (hf10:Zaq w0 N) (hf11:Zan w0 N) (hf7:Zao w0 N) (hf8:Zat w0 N) : AllOK Tryd.prog w0 Zaz 64 (Zgl N) := ZaD (Zmp hcs (Zfo N hcs hf10 hf11 hf7 hf8) Tryd.func15 (by kernel_rfl) (by kernel_rfl)) (Zfo N hcs hf10 hf11 hf7 hf8)
noncomputable abbrev ZcZ (N:Nat) : List (FuncId × Inl) := (Zgl N)
theorem ZfM {w0:World} (N:Nat) (hcs:∀ x ∈ Zau N, SA w0 x.1 x.2) (hf10:Zaq w0 N) (hf11:Zan w0 N) (hf7:Zao w0 N) (hf8:Zat w0 N) : AllOK Tryd.prog w0 Zaz 64 (ZcZ N) := (Ziv N hcs hf10 hf11 hf7 hf8)
def ZdL : Fm ((List (Int) × Unit × Int × Int × Nat × Nat × Nat × Nat × Int)) (((Nat × LI) × (Nat × LI) × (Nat × LI) × (Nat × LI))) := ⟨(.cons 2 (.dvw 36 5 (.tc (.int .u8))) (.cons 6 (.lit (.bool false)) (.cons 10 (.int .i64) (.cons 13 (.int .i64) (.cons 14 (.gsw 64 5) (.cons 15 (.gsw 65 5) (.cons 18 (.gsw 66 5) (.cons 19 (.gsw 67 5) (.one 20 (.int .i64)))))))))), (.cons 64 (.lst .u8) (.cons 65 (.lst .u8) (.cons 66 (.lst .u8) (.one 67 (.lst .u8)))))⟩
def ZdM : Fm ((List (Int) × Int × Int × Nat × Nat × Nat × Nat)) (((Nat × LI) × (Nat × LI) × (Nat × LI) × (Nat × LI))) := ⟨(.cons 2 (.dvw 36 5 (.tc (.int .u8))) (.cons 10 (.int .i64) (.cons 13 (.int .i64) (.cons 14 (.gsw 64 5) (.cons 15 (.gsw 65 5) (.cons 18 (.gsw 66 5) (.one 19 (.gsw 67 5)))))))), (.cons 64 (.lst .u8) (.cons 65 (.lst .u8) (.cons 66 (.lst .u8) (.one 67 (.lst .u8)))))⟩
def ZdN : Fm (Unit) (Unit) := ⟨.nil, .nil⟩
noncomputable def Zej (N:Nat) : List (Nat × Lf) := [(0, loopCt ZdL ZdM ZdN 72 (Zbh N) N)]
theorem ZhO (N:Nat) : StepIs Tryd.prog (cxIn Tryd.f4 (Zau N) Zaz 64 (ZcZ N)) (Zej N) Tryd.f4 0 72 ZdL ZdM ZdN (Zbh N) := by
 intro v; kernel_rfl
theorem Zkd (N:Nat) : IoRunIs Tryd.prog (Zau N) Zaz 64 (ZcZ N) (Zej N) Tryd.f4 88 Zgw Zgx Zgy Zgz ZgA [] (fun x => Zd8 N x.1 x.2.1 x.2.2) := by
 intro x; kernel_rfl
theorem Zke {w0:World} (N:Nat)  (hcs:∀ x ∈ Zau N, SA w0 x.1 x.2) (hf10:Zaq w0 N) (hf11:Zan w0 N) (hf7:Zao w0 N) (hf8:Zat w0 N) : Zgh w0 N := by
 have L0 : ∀ w : Base, w.g = w0 → ∀ ρk, LoopOKX Tryd.prog (cxIn Tryd.f4 (Zau N) Zaz 64 (ZcZ N)) w (Kp [] ρk) 0 (.loop (loopBody Tryd.f4 0)) (loopCt ZdL ZdM ZdN 72 (Zbh N) N) :=
  Zf6 hcs (ZfM N hcs hf10 hf11 hf7 hf8) (ls := Zej N) (n := 100) (by kernel_rfl) (ZhO N) N fun w hw ρk => Zap (lp_no (by kernel_rfl) ZcK)
 exact Zb2 hcs (ZaP _ _) (ZfM N hcs hf10 hf11 hf7 hf8) Tryd.func4 (by kernel_rfl) (by kernel_rfl) (fun w hw ρk => Zap (Zhk (L0 w hw ρk) (by kernel_rfl) ZcK)) (by kernel_rfl) (Zkd N)
theorem ZjU {w0:World} (N:Nat)  (ZaB:GO w0 Zbl) (Zak:GO w0 ZaL) : Zgh w0 N :=
 Zke N (Zbw (Zrq N) (Zbw (Zm0 N) (Zbw (ZjT N) (Zbw (Zlx N) ZbN)))) (ZhL N) (Zg5 N ZaB Zak) (Zg8 N ZaB Zak) (Zh4 N)
end Go.Vx
