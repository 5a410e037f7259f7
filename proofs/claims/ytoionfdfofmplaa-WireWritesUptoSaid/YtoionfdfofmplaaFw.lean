import Derived.Test.YtoionfdfofmplaaFp
import Derived.Test.YtoionfdfofmplaaProg
import Derived.Test.YtoionfdfofmplaaVxZ2
set_option autoImplicit false
set_option linter.unusedVariables false
set_option linter.unusedSimpArgs false
namespace Go.Vx
open Go Go.Proofs

abbrev A_wire_AppendNumber : Ag ((((Nat × List Int) × Unit) × Int)) := (.cons (.tup (.cons (.lst .u8) (.one (.lit (.clo 5 []))))) (.one (.int .u64)))
abbrev B_wire_AppendNumber : Pt (((Nat × List Int) × Unit)) := (.tup (.cons (.lst .u8) (.one (.lit (.clo 5 [])))))
def ct_wire_AppendNumber (N : Nat) : Ct := fct A_wire_AppendNumber B_wire_AppendNumber fun x => wire_AppendNumber N x.1 x.2
def cs_wire_AppendNumber (N : Nat) : List (FuncId × Ct) := []
def gs_wire_AppendNumber : List Gv := []
noncomputable abbrev is0_wire_AppendNumber (N : Nat) : List (FuncId × Inl) := ((36, inlOf Try.prog (cs_wire_AppendNumber N) gs_wire_AppendNumber 1 100 [] Try.f36) :: [])
theorem isok0_wire_AppendNumber (N : Nat) : InlAll Try.prog (cs_wire_AppendNumber N) gs_wire_AppendNumber 1 100 (is0_wire_AppendNumber N) := ⟨⟨Try.f36, Try.func36, by kernel_rfl, by kernel_rfl, rfl⟩, trivial⟩
noncomputable abbrev is1_wire_AppendNumber (N : Nat) : List (FuncId × Inl) := ((28, inlOf Try.prog (cs_wire_AppendNumber N) gs_wire_AppendNumber 1 100 (is0_wire_AppendNumber N) Try.f28) :: (is0_wire_AppendNumber N))
theorem isok1_wire_AppendNumber (N : Nat) : InlAll Try.prog (cs_wire_AppendNumber N) gs_wire_AppendNumber 1 100 (is1_wire_AppendNumber N) := ⟨⟨Try.f28, Try.func28, by kernel_rfl, by kernel_rfl, rfl⟩, (isok0_wire_AppendNumber N)⟩
noncomputable abbrev is_wire_AppendNumber (N : Nat) : List (FuncId × Inl) := (is1_wire_AppendNumber N)
theorem isok_wire_AppendNumber (N : Nat) : InlAll Try.prog (cs_wire_AppendNumber N) gs_wire_AppendNumber 1 100 (is_wire_AppendNumber N) := (isok1_wire_AppendNumber N)
def wire_AppendNumber_l0_H : Fm ((Int × Unit × Nat)) ((Nat × List Int)) := ⟨(.cons 1 (.int .u64) (.cons 4 (.lit .nils) (.one 5 (.gsw 1 5)))), (.one 1 (.lst .u8))⟩
def wire_AppendNumber_l0_O : Fm ((Int × Nat)) ((Nat × List Int)) := ⟨(.cons 1 (.int .u64) (.one 5 (.gsw 1 5))), (.one 1 (.lst .u8))⟩
def wire_AppendNumber_l0_T : Fm (Unit) (Unit) := ⟨.nil, .nil⟩
noncomputable def ls_wire_AppendNumber (N : Nat) : List (Nat × Lf) := [(0, loopCt wire_AppendNumber_l0_H wire_AppendNumber_l0_O wire_AppendNumber_l0_T 6 (wire_AppendNumber_l0 N) N)]
theorem wire_AppendNumber_l0_step (N : Nat) : StepIs Try.prog (cxIn Try.f15 (cs_wire_AppendNumber N) gs_wire_AppendNumber 1 (is_wire_AppendNumber N)) (ls_wire_AppendNumber N) Try.f15 0 6 wire_AppendNumber_l0_H wire_AppendNumber_l0_O wire_AppendNumber_l0_T (wire_AppendNumber_l0 N) := by
  intro v; kernel_rfl
theorem r_wire_AppendNumber (N : Nat) : RunIs Try.prog (cs_wire_AppendNumber N) gs_wire_AppendNumber 1 (ls_wire_AppendNumber N) Try.f15 A_wire_AppendNumber B_wire_AppendNumber (fun x => wire_AppendNumber N x.1 x.2) (fun g => lkI g (is_wire_AppendNumber N)) := by
  intro x; kernel_rfl
theorem s_wire_AppendNumber {w0 : World} (N : Nat)  (hcs : ∀ x ∈ cs_wire_AppendNumber N, SoundAt Try.prog w0 x.1 x.2) : SoundAt Try.prog w0 15 (ct_wire_AppendNumber N) := by
  have L0 : ∀ w : Base, w.g = w0 → LoopOK Try.prog (cxIn Try.f15 (cs_wire_AppendNumber N) gs_wire_AppendNumber 1 (is_wire_AppendNumber N)) w 0 (.loop (loopBody Try.f15 0)) (loopCt wire_AppendNumber_l0_H wire_AppendNumber_l0_O wire_AppendNumber_l0_T 6 (wire_AppendNumber_l0 N) N) :=
    loop_printedI hcs (isok_wire_AppendNumber N) (ls := ls_wire_AppendNumber N) (n := 100) (by kernel_rfl) (wire_AppendNumber_l0_step N) N fun w hw => loopsOK_list (lp_no (by kernel_rfl) lp_nil)
  exact fn_printedI hcs (glob_nil _ _) (isok_wire_AppendNumber N) Try.func15 (by kernel_rfl) (by kernel_rfl) (S := 1) (fun w hw => loopsOK_list (lp_yes (L0 w hw) (by kernel_rfl) lp_nil)) (fun _ => rfl) (r_wire_AppendNumber N)
theorem k_wire_AppendNumber {w0 : World} (N : Nat)  : SoundAt Try.prog w0 15 (ct_wire_AppendNumber N) :=
  s_wire_AppendNumber N cs_nil

abbrev A_wire_AppendBytes : Ag ((((Nat × List Int) × Unit) × ((Nat × List Int) × Unit))) := (.cons (.tup (.cons (.lst .u8) (.one (.lit (.clo 5 []))))) (.one (.tup (.cons (.lst .u8) (.one (.lit (.clo 5 [])))))))
abbrev B_wire_AppendBytes : Pt (((Nat × List Int) × Unit)) := (.tup (.cons (.lst .u8) (.one (.lit (.clo 5 [])))))
def ct_wire_AppendBytes (N : Nat) : Ct := fct A_wire_AppendBytes B_wire_AppendBytes fun x => wire_AppendBytes N x.1 x.2
def cs_wire_AppendBytes (N : Nat) : List (FuncId × Ct) := [(15, (ct_wire_AppendNumber N))]
def gs_wire_AppendBytes : List Gv := []
noncomputable def ls_wire_AppendBytes (N : Nat) : List (Nat × Lf) := []
theorem r_wire_AppendBytes (N : Nat) : RunIs Try.prog (cs_wire_AppendBytes N) gs_wire_AppendBytes 2 (ls_wire_AppendBytes N) Try.f16 A_wire_AppendBytes B_wire_AppendBytes (fun x => wire_AppendBytes N x.1 x.2) := by
  intro x; kernel_rfl
theorem s_wire_AppendBytes {w0 : World} (N : Nat)  (hcs : ∀ x ∈ cs_wire_AppendBytes N, SoundAt Try.prog w0 x.1 x.2) : SoundAt Try.prog w0 16 (ct_wire_AppendBytes N) := by
  exact fn_printed hcs (glob_nil _ _) Try.func16 (by kernel_rfl) (by kernel_rfl) (S := 2) (fun w _ => loopsOK_nil _) (fun _ => rfl) (r_wire_AppendBytes N)
theorem k_wire_AppendBytes {w0 : World} (N : Nat)  : SoundAt Try.prog w0 16 (ct_wire_AppendBytes N) :=
  s_wire_AppendBytes N (cs_cons (k_wire_AppendNumber N) cs_nil)

abbrev A_veilref10_Number : Ag (Int) := (.one (.int .u64))
abbrev B_veilref10_Number : Pt (((Nat × List Int) × Unit)) := (.tup (.cons (.lst .u8) (.one (.lit (.clo 5 [])))))
def ct_veilref10_Number (N : Nat) : Ct := fct A_veilref10_Number B_veilref10_Number fun x => veilref10_Number N x
def cs_veilref10_Number (N : Nat) : List (FuncId × Ct) := []
def gs_veilref10_Number : List Gv := []
def veilref10_Number_l0_H : Fm ((Int × Unit × Nat)) ((Nat × List Int)) := ⟨(.cons 0 (.int .u64) (.cons 2 (.lit .nils) (.one 3 (.gsw 0 5)))), (.one 0 (.lst .u8))⟩
def veilref10_Number_l0_O : Fm ((Int × Nat)) ((Nat × List Int)) := ⟨(.cons 0 (.int .u64) (.one 3 (.gsw 0 5))), (.one 0 (.lst .u8))⟩
def veilref10_Number_l0_T : Fm (Unit) (Unit) := ⟨.nil, .nil⟩
noncomputable def ls_veilref10_Number (N : Nat) : List (Nat × Lf) := [(0, loopCt veilref10_Number_l0_H veilref10_Number_l0_O veilref10_Number_l0_T 2 (veilref10_Number_l0 N) N)]
theorem veilref10_Number_l0_step (N : Nat) : StepIs Try.prog (cxOf Try.f17 (cs_veilref10_Number N) gs_veilref10_Number 0) (ls_veilref10_Number N) Try.f17 0 2 veilref10_Number_l0_H veilref10_Number_l0_O veilref10_Number_l0_T (veilref10_Number_l0 N) := by
  intro v; kernel_rfl
theorem r_veilref10_Number (N : Nat) : RunIs Try.prog (cs_veilref10_Number N) gs_veilref10_Number 0 (ls_veilref10_Number N) Try.f17 A_veilref10_Number B_veilref10_Number (fun x => veilref10_Number N x) := by
  intro x; kernel_rfl
theorem s_veilref10_Number {w0 : World} (N : Nat)  (hcs : ∀ x ∈ cs_veilref10_Number N, SoundAt Try.prog w0 x.1 x.2) : SoundAt Try.prog w0 17 (ct_veilref10_Number N) := by
  have L0 : ∀ w : Base, w.g = w0 → LoopOK Try.prog (cxOf Try.f17 (cs_veilref10_Number N) gs_veilref10_Number 0) w 0 (.loop (loopBody Try.f17 0)) (loopCt veilref10_Number_l0_H veilref10_Number_l0_O veilref10_Number_l0_T 2 (veilref10_Number_l0 N) N) :=
    loop_printed hcs (ls := ls_veilref10_Number N) (n := 100) (by kernel_rfl) (veilref10_Number_l0_step N) N fun w hw => loopsOK_list (lp_no (by kernel_rfl) lp_nil)
  exact fn_printed hcs (glob_nil _ _) Try.func17 (by kernel_rfl) (by kernel_rfl) (S := 0) (fun w hw => loopsOK_list (lp_yes (L0 w hw) (by kernel_rfl) lp_nil)) (fun _ => rfl) (r_veilref10_Number N)
theorem k_veilref10_Number {w0 : World} (N : Nat)  : SoundAt Try.prog w0 17 (ct_veilref10_Number N) :=
  s_veilref10_Number N cs_nil

def fA_veillaw10_WireWrites : Ag ((List (Int) × List (Int) × Int)) := (.cons (.dvw 32 5 (.tc (.int .u8))) (.cons (.dvw 33 5 (.tc (.int .u8))) (.one (.int .u64))))
def fR_veillaw10_WireWrites : Ent (Unit) := .nil
def fM_veillaw10_WireWrites : Ent (Unit) := .nil
def fB_veillaw10_WireWrites : Pt (Bool) := .bool
def fE_veillaw10_WireWrites : Ent (Unit) := .nil
abbrev SIO_veillaw10_WireWrites (w0 : World) (N : Nat) : Prop := SoundIo Try.prog w0 4 64 88 fA_veillaw10_WireWrites fR_veillaw10_WireWrites fM_veillaw10_WireWrites fB_veillaw10_WireWrites fE_veillaw10_WireWrites [] (fun x => veillaw10_WireWrites N x.1 x.2.1 x.2.2)
def cs_veillaw10_WireWrites (N : Nat) : List (FuncId × Ct) := [(15, (ct_wire_AppendNumber N)), (16, (ct_wire_AppendBytes N)), (17, (ct_veilref10_Number N))]
def gs_veillaw10_WireWrites : List Gv := []
noncomputable abbrev is0_veillaw10_WireWrites (N : Nat) : List (FuncId × Inl) := ((8, (inlOf Try.prog (cs_veillaw10_WireWrites N) gs_veillaw10_WireWrites 64 100 [] Try.f8)) :: [])
theorem isok0_veillaw10_WireWrites {w0 : World} (N : Nat) (hcs : ∀ x ∈ cs_veillaw10_WireWrites N, SoundAt Try.prog w0 x.1 x.2) : AllOK Try.prog w0 gs_veillaw10_WireWrites 64 (is0_veillaw10_WireWrites N) := allok_cons (one_of hcs allok_nil Try.func8 (by kernel_rfl) (by kernel_rfl)) allok_nil
noncomputable abbrev is1_veillaw10_WireWrites (N : Nat) : List (FuncId × Inl) := ((18, (inlOf Try.prog (cs_veillaw10_WireWrites N) gs_veillaw10_WireWrites 64 100 (is0_veillaw10_WireWrites N) Try.f18)) :: (is0_veillaw10_WireWrites N))
theorem isok1_veillaw10_WireWrites {w0 : World} (N : Nat) (hcs : ∀ x ∈ cs_veillaw10_WireWrites N, SoundAt Try.prog w0 x.1 x.2) : AllOK Try.prog w0 gs_veillaw10_WireWrites 64 (is1_veillaw10_WireWrites N) := allok_cons (one_of hcs (isok0_veillaw10_WireWrites N hcs) Try.func18 (by kernel_rfl) (by kernel_rfl)) (isok0_veillaw10_WireWrites N hcs)
noncomputable abbrev is2_veillaw10_WireWrites (N : Nat) : List (FuncId × Inl) := ((14, (inlOf Try.prog (cs_veillaw10_WireWrites N) gs_veillaw10_WireWrites 64 100 (is1_veillaw10_WireWrites N) Try.f14)) :: (is1_veillaw10_WireWrites N))
theorem isok2_veillaw10_WireWrites {w0 : World} (N : Nat) (hcs : ∀ x ∈ cs_veillaw10_WireWrites N, SoundAt Try.prog w0 x.1 x.2) : AllOK Try.prog w0 gs_veillaw10_WireWrites 64 (is2_veillaw10_WireWrites N) := allok_cons (one_of hcs (isok1_veillaw10_WireWrites N hcs) Try.func14 (by kernel_rfl) (by kernel_rfl)) (isok1_veillaw10_WireWrites N hcs)
noncomputable abbrev is3_veillaw10_WireWrites (N : Nat) : List (FuncId × Inl) := ((11, (inlOf Try.prog (cs_veillaw10_WireWrites N) gs_veillaw10_WireWrites 64 100 (is2_veillaw10_WireWrites N) Try.f11)) :: (is2_veillaw10_WireWrites N))
theorem isok3_veillaw10_WireWrites {w0 : World} (N : Nat) (hcs : ∀ x ∈ cs_veillaw10_WireWrites N, SoundAt Try.prog w0 x.1 x.2) : AllOK Try.prog w0 gs_veillaw10_WireWrites 64 (is3_veillaw10_WireWrites N) := allok_cons (one_of hcs (isok2_veillaw10_WireWrites N hcs) Try.func11 (by kernel_rfl) (by kernel_rfl)) (isok2_veillaw10_WireWrites N hcs)
noncomputable abbrev is_veillaw10_WireWrites (N : Nat) : List (FuncId × Inl) := ((4294967295, Inl.no) :: (is3_veillaw10_WireWrites N))
theorem isok_veillaw10_WireWrites {w0 : World} (N : Nat) (hcs : ∀ x ∈ cs_veillaw10_WireWrites N, SoundAt Try.prog w0 x.1 x.2) : AllOK Try.prog w0 gs_veillaw10_WireWrites 64 (is_veillaw10_WireWrites N) := (allok_cons one_no (isok3_veillaw10_WireWrites N hcs))
def veillaw10_WireWrites_l0_H : Fm ((List (Int) × List (Int) × Unit × Nat × Nat × Nat × Nat × Int)) (((Nat × List Int) × (Nat × List Int) × (Nat × List Int) × (Nat × List Int))) := ⟨(.cons 0 (.dvw 32 5 (.tc (.int .u8))) (.cons 1 (.dvw 33 5 (.tc (.int .u8))) (.cons 6 (.lit (.bool false)) (.cons 7 (.gsw 64 5) (.cons 8 (.gsw 65 5) (.cons 9 (.gsw 66 5) (.cons 10 (.gsw 67 5) (.one 13 (.int .i64))))))))), (.cons 64 (.lst .u8) (.cons 65 (.lst .u8) (.cons 66 (.lst .u8) (.one 67 (.lst .u8)))))⟩
def veillaw10_WireWrites_l0_O : Fm ((List (Int) × List (Int) × Nat × Nat × Nat × Nat)) (((Nat × List Int) × (Nat × List Int) × (Nat × List Int) × (Nat × List Int))) := ⟨(.cons 0 (.dvw 32 5 (.tc (.int .u8))) (.cons 1 (.dvw 33 5 (.tc (.int .u8))) (.cons 7 (.gsw 64 5) (.cons 8 (.gsw 65 5) (.cons 9 (.gsw 66 5) (.one 10 (.gsw 67 5))))))), (.cons 64 (.lst .u8) (.cons 65 (.lst .u8) (.cons 66 (.lst .u8) (.one 67 (.lst .u8)))))⟩
def veillaw10_WireWrites_l0_T : Fm (Unit) (Unit) := ⟨.nil, .nil⟩
def veillaw10_WireWrites_l2_H : Fm ((List (Int) × List (Int) × Nat × Nat × Nat × Nat × Int)) (((Nat × List Int) × (Nat × List Int) × (Nat × List Int) × (Nat × List Int))) := ⟨(.cons 0 (.dvw 32 5 (.tc (.int .u8))) (.cons 1 (.dvw 33 5 (.tc (.int .u8))) (.cons 7 (.gsw 64 5) (.cons 8 (.gsw 65 5) (.cons 9 (.gsw 66 5) (.cons 10 (.gsw 67 5) (.one 14 (.int .i64)))))))), (.cons 64 (.lst .u8) (.cons 65 (.lst .u8) (.cons 66 (.lst .u8) (.one 67 (.lst .u8)))))⟩
def veillaw10_WireWrites_l2_O : Fm ((List (Int) × List (Int) × Nat × Nat × Nat × Nat)) (((Nat × List Int) × (Nat × List Int) × (Nat × List Int) × (Nat × List Int))) := ⟨(.cons 0 (.dvw 32 5 (.tc (.int .u8))) (.cons 1 (.dvw 33 5 (.tc (.int .u8))) (.cons 7 (.gsw 64 5) (.cons 8 (.gsw 65 5) (.cons 9 (.gsw 66 5) (.one 10 (.gsw 67 5))))))), (.cons 64 (.lst .u8) (.cons 65 (.lst .u8) (.cons 66 (.lst .u8) (.one 67 (.lst .u8)))))⟩
def veillaw10_WireWrites_l2_T : Fm (Unit) (Unit) := ⟨.nil, .nil⟩
noncomputable def ls_veillaw10_WireWrites (N : Nat) : List (Nat × Lf) := [(0, loopCt veillaw10_WireWrites_l0_H veillaw10_WireWrites_l0_O veillaw10_WireWrites_l0_T 72 (veillaw10_WireWrites_l0 N) N), (2, loopCt veillaw10_WireWrites_l2_H veillaw10_WireWrites_l2_O veillaw10_WireWrites_l2_T 72 (veillaw10_WireWrites_l2 N) N)]
theorem veillaw10_WireWrites_l0_step (N : Nat) : StepIs Try.prog (cxIn Try.f4 (cs_veillaw10_WireWrites N) gs_veillaw10_WireWrites 64 (is_veillaw10_WireWrites N)) (ls_veillaw10_WireWrites N) Try.f4 0 72 veillaw10_WireWrites_l0_H veillaw10_WireWrites_l0_O veillaw10_WireWrites_l0_T (veillaw10_WireWrites_l0 N) := by
  intro v; kernel_rfl
theorem veillaw10_WireWrites_l2_step (N : Nat) : StepIs Try.prog (cxIn Try.f4 (cs_veillaw10_WireWrites N) gs_veillaw10_WireWrites 64 (is_veillaw10_WireWrites N)) (ls_veillaw10_WireWrites N) Try.f4 2 72 veillaw10_WireWrites_l2_H veillaw10_WireWrites_l2_O veillaw10_WireWrites_l2_T (veillaw10_WireWrites_l2 N) := by
  intro v; kernel_rfl
theorem r_veillaw10_WireWrites (N : Nat) : IoRunIs Try.prog (cs_veillaw10_WireWrites N) gs_veillaw10_WireWrites 64 (is_veillaw10_WireWrites N) (ls_veillaw10_WireWrites N) Try.f4 88 fA_veillaw10_WireWrites fR_veillaw10_WireWrites fM_veillaw10_WireWrites fB_veillaw10_WireWrites fE_veillaw10_WireWrites [] (fun x => veillaw10_WireWrites N x.1 x.2.1 x.2.2) := by
  intro x; kernel_rfl
theorem s_veillaw10_WireWrites {w0 : World} (N : Nat)  (hcs : ∀ x ∈ cs_veillaw10_WireWrites N, SoundAt Try.prog w0 x.1 x.2) : SIO_veillaw10_WireWrites w0 N := by
  have L0 : ∀ w : Base, w.g = w0 → ∀ ρk, LoopOKX Try.prog (cxIn Try.f4 (cs_veillaw10_WireWrites N) gs_veillaw10_WireWrites 64 (is_veillaw10_WireWrites N)) w (Kp [] ρk) 0 (.loop (loopBody Try.f4 0)) (loopCt veillaw10_WireWrites_l0_H veillaw10_WireWrites_l0_O veillaw10_WireWrites_l0_T 72 (veillaw10_WireWrites_l0 N) N) :=
    loop_printedK hcs (isok_veillaw10_WireWrites N hcs) (ls := ls_veillaw10_WireWrites N) (n := 100) (by kernel_rfl) (veillaw10_WireWrites_l0_step N) N fun w hw ρk => loopsOK_list (lp_no (by kernel_rfl) (lp_no (by kernel_rfl) lp_nil))
  have L2 : ∀ w : Base, w.g = w0 → ∀ ρk, LoopOKX Try.prog (cxIn Try.f4 (cs_veillaw10_WireWrites N) gs_veillaw10_WireWrites 64 (is_veillaw10_WireWrites N)) w (Kp [] ρk) 2 (.loop (loopBody Try.f4 2)) (loopCt veillaw10_WireWrites_l2_H veillaw10_WireWrites_l2_O veillaw10_WireWrites_l2_T 72 (veillaw10_WireWrites_l2 N) N) :=
    loop_printedK hcs (isok_veillaw10_WireWrites N hcs) (ls := ls_veillaw10_WireWrites N) (n := 100) (by kernel_rfl) (veillaw10_WireWrites_l2_step N) N fun w hw ρk => loopsOK_list (lp_no (by kernel_rfl) (lp_no (by kernel_rfl) lp_nil))
  exact io_printed hcs (glob_nil _ _) (isok_veillaw10_WireWrites N hcs) Try.func4 (by kernel_rfl) (by kernel_rfl) (fun w hw ρk => loopsOK_list (lp_yes (L0 w hw ρk) (by kernel_rfl) (lp_yes (L2 w hw ρk) (by kernel_rfl) lp_nil))) (by kernel_rfl) (r_veillaw10_WireWrites N)
theorem k_veillaw10_WireWrites {w0 : World} (N : Nat)  : SIO_veillaw10_WireWrites w0 N :=
  s_veillaw10_WireWrites N (cs_cons (k_wire_AppendNumber N) (cs_cons (k_wire_AppendBytes N) (cs_cons (k_veilref10_Number N) cs_nil)))

end Go.Vx
