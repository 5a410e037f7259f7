import Derived.Test.YtoionfdfofmplaaFp
import Derived.Test.YtoionfdfofmplaaProg
import Derived.Test.YtoionfdfofmplaaVxR2
import Derived.Test.YtoionfdfofmplaaVxIo2
set_option autoImplicit false
set_option linter.unusedVariables false
set_option linter.unusedSimpArgs false
namespace Go.Vx
open Go Go.Proofs

def ct_bits_Add64 : Ct := fct (.cons (.int .u64) (.cons (.int .u64) (.one (.int .u64)))) (.tup (.cons (.int .u64) (.one (.int .u64)))) fun x => bits_Add64 x.1 x.2.1 x.2.2

abbrev A_veillaw10_room : Ag (((Nat × List Int) × Unit)) := (.one (.tup (.cons (.lst .u8) (.one (.lit (.clo 5 []))))))
abbrev B_veillaw10_room : Pt (((Nat × List Int) × Unit)) := (.tup (.cons (.lst .u8) (.one (.lit (.clo 5 [])))))
def ct_veillaw10_room : Ct := fct A_veillaw10_room B_veillaw10_room fun x => veillaw10_room x
def cs_veillaw10_room : List (FuncId × Ct) := []
def gs_veillaw10_room : List Gv := []
noncomputable def ls_veillaw10_room : List (Nat × Lf) := []
theorem r_veillaw10_room : RunIs Try.prog (cs_veillaw10_room) gs_veillaw10_room 1 (ls_veillaw10_room) Try.f8 A_veillaw10_room B_veillaw10_room (fun x => veillaw10_room x) := by
  intro x; kernel_rfl
theorem s_veillaw10_room {w0 : World}  (hcs : ∀ x ∈ cs_veillaw10_room, SoundAt Try.prog w0 x.1 x.2) : SoundAt Try.prog w0 8 ct_veillaw10_room := by
  exact fn_printed hcs (glob_nil _ _) Try.func8 (by kernel_rfl) (by kernel_rfl) (S := 1) (fun w _ => loopsOK_nil _) (fun _ => rfl) (r_veillaw10_room)
theorem k_veillaw10_room {w0 : World}  : SoundAt Try.prog w0 8 ct_veillaw10_room :=
  s_veillaw10_room cs_nil

abbrev A_veillaw10_same : Ag ((((Nat × List Int) × Unit) × ((Nat × List Int) × Unit))) := (.cons (.tup (.cons (.lst .u8) (.one (.lit (.clo 5 []))))) (.one (.tup (.cons (.lst .u8) (.one (.lit (.clo 5 [])))))))
abbrev B_veillaw10_same : Pt (Bool) := .bool
def ct_veillaw10_same : Ct := tct A_veillaw10_same B_veillaw10_same fun x => veillaw10_same x.1 x.2
def cs_veillaw10_same : List (FuncId × Ct) := []
def gs_veillaw10_same : List Gv := []
noncomputable def ls_veillaw10_same : List (Nat × Lf) := []
theorem r_veillaw10_same : RunIs Try.prog (cs_veillaw10_same) gs_veillaw10_same 2 (ls_veillaw10_same) Try.f14 A_veillaw10_same B_veillaw10_same (fun x => some (veillaw10_same x.1 x.2)) := by
  intro x; kernel_rfl
theorem s_veillaw10_same {w0 : World}  (hcs : ∀ x ∈ cs_veillaw10_same, SoundAt Try.prog w0 x.1 x.2) : SoundAt Try.prog w0 14 ct_veillaw10_same := by
  exact sound_tct (fn_printed hcs (glob_nil _ _) Try.func14 (by kernel_rfl) (by kernel_rfl) (S := 2) (fun w _ => loopsOK_nil _) (fun _ => rfl) (r_veillaw10_same)) fun _ _ => rfl
theorem k_veillaw10_same {w0 : World}  : SoundAt Try.prog w0 14 ct_veillaw10_same :=
  s_veillaw10_same cs_nil

abbrev A_veillaw10_roomy : Ag ((((Nat × List Int) × Unit) × ((Nat × List Int) × Unit))) := (.cons (.tup (.cons (.lst .u8) (.one (.lit (.clo 5 []))))) (.one (.tup (.cons (.lst .u8) (.one (.lit (.clo 5 [])))))))
abbrev B_veillaw10_roomy : Pt (Bool) := .bool
def ct_veillaw10_roomy : Ct := fct A_veillaw10_roomy B_veillaw10_roomy fun x => veillaw10_roomy x.1 x.2
def cs_veillaw10_roomy : List (FuncId × Ct) := [(14, ct_veillaw10_same)]
def gs_veillaw10_roomy : List Gv := []
noncomputable def ls_veillaw10_roomy : List (Nat × Lf) := []
theorem r_veillaw10_roomy : RunIs Try.prog (cs_veillaw10_roomy) gs_veillaw10_roomy 2 (ls_veillaw10_roomy) Try.f11 A_veillaw10_roomy B_veillaw10_roomy (fun x => veillaw10_roomy x.1 x.2) := by
  intro x; kernel_rfl
theorem s_veillaw10_roomy {w0 : World}  (hcs : ∀ x ∈ cs_veillaw10_roomy, SoundAt Try.prog w0 x.1 x.2) : SoundAt Try.prog w0 11 ct_veillaw10_roomy := by
  exact fn_printed hcs (glob_nil _ _) Try.func11 (by kernel_rfl) (by kernel_rfl) (S := 2) (fun w _ => loopsOK_nil _) (fun _ => rfl) (r_veillaw10_roomy)
theorem k_veillaw10_roomy {w0 : World}  : SoundAt Try.prog w0 11 ct_veillaw10_roomy :=
  s_veillaw10_roomy (cs_cons (k_veillaw10_same) cs_nil)

abbrev A_wire_Hex : Ag (((Nat × List Int) × Unit)) := (.one (.tup (.cons (.lst .u8) (.one (.lit (.clo 5 []))))))
abbrev B_wire_Hex : Pt (ByteArray) := .str
def ct_wire_Hex (N : Nat) : Ct := fct A_wire_Hex B_wire_Hex fun x => wire_Hex N x
def cs_wire_Hex (N : Nat) : List (FuncId × Ct) := []
def gs_wire_Hex : List Gv := []
def wire_Hex_l0_H : Fm ((ByteArray × Nat × Nat × Int × Int)) (((Nat × List Int) × (Nat × List Int))) := ⟨(.cons 2 .str (.cons 3 (.gsw 5 5) (.cons 10 (.slw 0 5) (.cons 11 (.int .i64) (.one 12 (.int .i64)))))), (.cons 0 (.lst .u8) (.one 5 (.lst .u8)))⟩
def wire_Hex_l0_O : Fm (Nat) ((Nat × List Int)) := ⟨(.one 3 (.gsw 5 5)), (.one 5 (.lst .u8))⟩
def wire_Hex_l0_T : Fm (Unit) (Unit) := ⟨.nil, .nil⟩
noncomputable def ls_wire_Hex (N : Nat) : List (Nat × Lf) := [(0, loopCt wire_Hex_l0_H wire_Hex_l0_O wire_Hex_l0_T 10 (wire_Hex_l0 N) N)]
theorem wire_Hex_l0_step (N : Nat) : StepIs Try.prog (cxOf Try.f9 (cs_wire_Hex N) gs_wire_Hex 1) (ls_wire_Hex N) Try.f9 0 10 wire_Hex_l0_H wire_Hex_l0_O wire_Hex_l0_T (wire_Hex_l0 N) := by
  intro v; kernel_rfl
theorem r_wire_Hex (N : Nat) : RunIs Try.prog (cs_wire_Hex N) gs_wire_Hex 1 (ls_wire_Hex N) Try.f9 A_wire_Hex B_wire_Hex (fun x => wire_Hex N x) := by
  intro x; kernel_rfl
theorem s_wire_Hex {w0 : World} (N : Nat)  (hcs : ∀ x ∈ cs_wire_Hex N, SoundAt Try.prog w0 x.1 x.2) : SoundAt Try.prog w0 9 (ct_wire_Hex N) := by
  have L0 : ∀ w : Base, w.g = w0 → LoopOK Try.prog (cxOf Try.f9 (cs_wire_Hex N) gs_wire_Hex 1) w 0 (.loop (loopBody Try.f9 0)) (loopCt wire_Hex_l0_H wire_Hex_l0_O wire_Hex_l0_T 10 (wire_Hex_l0 N) N) :=
    loop_printed hcs (ls := ls_wire_Hex N) (n := 100) (by kernel_rfl) (wire_Hex_l0_step N) N fun w hw => loopsOK_list (lp_no (by kernel_rfl) lp_nil)
  exact fn_printed hcs (glob_nil _ _) Try.func9 (by kernel_rfl) (by kernel_rfl) (S := 1) (fun w hw => loopsOK_list (lp_yes (L0 w hw) (by kernel_rfl) lp_nil)) (fun _ => rfl) (r_wire_Hex N)
theorem k_wire_Hex {w0 : World} (N : Nat)  : SoundAt Try.prog w0 9 (ct_wire_Hex N) :=
  s_wire_Hex N cs_nil

abbrev A_veilref10_Hex : Ag (((Nat × List Int) × Unit)) := (.one (.tup (.cons (.lst .u8) (.one (.lit (.clo 5 []))))))
abbrev B_veilref10_Hex : Pt (ByteArray) := .str
def ct_veilref10_Hex (N : Nat) : Ct := fct A_veilref10_Hex B_veilref10_Hex fun x => veilref10_Hex N x
def cs_veilref10_Hex (N : Nat) : List (FuncId × Ct) := []
def gs_veilref10_Hex : List Gv := []
def veilref10_Hex_l0_H : Fm ((Nat × ByteArray × ByteArray × Int)) ((Nat × List Int)) := ⟨(.cons 0 (.slw 0 5) (.cons 2 .str (.cons 3 .str (.one 4 (.int .i64))))), (.one 0 (.lst .u8))⟩
def veilref10_Hex_l0_O : Fm (ByteArray) (Unit) := ⟨(.one 3 .str), .nil⟩
def veilref10_Hex_l0_T : Fm (Unit) (Unit) := ⟨.nil, .nil⟩
noncomputable def ls_veilref10_Hex (N : Nat) : List (Nat × Lf) := [(0, loopCt veilref10_Hex_l0_H veilref10_Hex_l0_O veilref10_Hex_l0_T 4 (veilref10_Hex_l0 N) N)]
theorem veilref10_Hex_l0_step (N : Nat) : StepIs Try.prog (cxOf Try.f10 (cs_veilref10_Hex N) gs_veilref10_Hex 1) (ls_veilref10_Hex N) Try.f10 0 4 veilref10_Hex_l0_H veilref10_Hex_l0_O veilref10_Hex_l0_T (veilref10_Hex_l0 N) := by
  intro v; kernel_rfl
theorem r_veilref10_Hex (N : Nat) : RunIs Try.prog (cs_veilref10_Hex N) gs_veilref10_Hex 1 (ls_veilref10_Hex N) Try.f10 A_veilref10_Hex B_veilref10_Hex (fun x => veilref10_Hex N x) := by
  intro x; kernel_rfl
theorem s_veilref10_Hex {w0 : World} (N : Nat)  (hcs : ∀ x ∈ cs_veilref10_Hex N, SoundAt Try.prog w0 x.1 x.2) : SoundAt Try.prog w0 10 (ct_veilref10_Hex N) := by
  have L0 : ∀ w : Base, w.g = w0 → LoopOK Try.prog (cxOf Try.f10 (cs_veilref10_Hex N) gs_veilref10_Hex 1) w 0 (.loop (loopBody Try.f10 0)) (loopCt veilref10_Hex_l0_H veilref10_Hex_l0_O veilref10_Hex_l0_T 4 (veilref10_Hex_l0 N) N) :=
    loop_printed hcs (ls := ls_veilref10_Hex N) (n := 100) (by kernel_rfl) (veilref10_Hex_l0_step N) N fun w hw => loopsOK_list (lp_no (by kernel_rfl) lp_nil)
  exact fn_printed hcs (glob_nil _ _) Try.func10 (by kernel_rfl) (by kernel_rfl) (S := 1) (fun w hw => loopsOK_list (lp_yes (L0 w hw) (by kernel_rfl) lp_nil)) (fun _ => rfl) (r_veilref10_Hex N)
theorem k_veilref10_Hex {w0 : World} (N : Nat)  : SoundAt Try.prog w0 10 (ct_veilref10_Hex N) :=
  s_veilref10_Hex N cs_nil

abbrev A_wire_digit : Ag (Int) := (.one (.int .i32))
abbrev B_wire_digit : Pt (Int) := (.int .u8)
def ct_wire_digit : Ct := tct A_wire_digit B_wire_digit fun x => wire_digit x
def cs_wire_digit : List (FuncId × Ct) := []
def gs_wire_digit : List Gv := []
noncomputable def ls_wire_digit : List (Nat × Lf) := []
theorem r_wire_digit : RunIs Try.prog (cs_wire_digit) gs_wire_digit 0 (ls_wire_digit) Try.f26 A_wire_digit B_wire_digit (fun x => wire_digit_o x) := by
  intro x; kernel_rfl
theorem s_wire_digit {w0 : World}  (hcs : ∀ x ∈ cs_wire_digit, SoundAt Try.prog w0 x.1 x.2) : SoundAt Try.prog w0 26 ct_wire_digit := by
  exact sound_tct (fn_printed hcs (glob_nil _ _) Try.func26 (by kernel_rfl) (by kernel_rfl) (S := 0) (fun w _ => loopsOK_nil _) (fun _ => rfl) (r_wire_digit)) fun _ _ => wire_digit_tot _
theorem k_wire_digit {w0 : World}  : SoundAt Try.prog w0 26 ct_wire_digit :=
  s_wire_digit cs_nil

abbrev A_wire_Unhex : Ag (ByteArray) := (.one .str)
abbrev B_wire_Unhex : Pt ((((Nat × List Int) × Unit) × Int)) := (.tup (.cons (.tup (.cons (.lst .u8) (.one (.lit (.clo 5 []))))) (.one (.int .i64))))
def ct_wire_Unhex (N : Nat) : Ct := fct A_wire_Unhex B_wire_Unhex fun x => wire_Unhex N x
def cs_wire_Unhex (N : Nat) : List (FuncId × Ct) := [(26, ct_wire_digit)]
def gs_wire_Unhex : List Gv := []
def wire_Unhex_l0_H : Fm ((Unit × Unit × Nat × Unit)) (((Nat × List Int) × (ByteArray × Nat))) := ⟨(.cons 2 (.lit .nils) (.cons 3 (.lit (.int .i64 0)) (.cons 4 (.gsw 9 5) (.one 17 (.lit (.itp 13)))))), (.cons 9 (.lst .u8) (.one 13 .itr))⟩
def wire_Unhex_l0_O : Fm (Nat) ((Nat × List Int)) := ⟨(.one 4 (.gsw 9 5)), (.one 9 (.lst .u8))⟩
def wire_Unhex_l0_T : Fm ((Unit × Unit)) (Unit) := ⟨(.cons 2 (.lit .nils) (.one 3 (.lit (.int .i64 104)))), .nil⟩
noncomputable def ls_wire_Unhex (N : Nat) : List (Nat × Lf) := [(0, loopCt wire_Unhex_l0_H wire_Unhex_l0_O wire_Unhex_l0_T 16 (wire_Unhex_l0 N) N)]
theorem wire_Unhex_l0_step (N : Nat) : StepIs Try.prog (cxOf Try.f12 (cs_wire_Unhex N) gs_wire_Unhex 0) (ls_wire_Unhex N) Try.f12 0 16 wire_Unhex_l0_H wire_Unhex_l0_O wire_Unhex_l0_T (wire_Unhex_l0 N) := by
  intro v; kernel_rfl
theorem r_wire_Unhex (N : Nat) : RunIs Try.prog (cs_wire_Unhex N) gs_wire_Unhex 0 (ls_wire_Unhex N) Try.f12 A_wire_Unhex B_wire_Unhex (fun x => wire_Unhex N x) := by
  intro x; kernel_rfl
theorem s_wire_Unhex {w0 : World} (N : Nat)  (hcs : ∀ x ∈ cs_wire_Unhex N, SoundAt Try.prog w0 x.1 x.2) : SoundAt Try.prog w0 12 (ct_wire_Unhex N) := by
  have L0 : ∀ w : Base, w.g = w0 → LoopOK Try.prog (cxOf Try.f12 (cs_wire_Unhex N) gs_wire_Unhex 0) w 0 (.loop (loopBody Try.f12 0)) (loopCt wire_Unhex_l0_H wire_Unhex_l0_O wire_Unhex_l0_T 16 (wire_Unhex_l0 N) N) :=
    loop_printed hcs (ls := ls_wire_Unhex N) (n := 100) (by kernel_rfl) (wire_Unhex_l0_step N) N fun w hw => loopsOK_list (lp_no (by kernel_rfl) lp_nil)
  exact fn_printed hcs (glob_nil _ _) Try.func12 (by kernel_rfl) (by kernel_rfl) (S := 0) (fun w hw => loopsOK_list (lp_yes (L0 w hw) (by kernel_rfl) lp_nil)) (fun _ => rfl) (r_wire_Unhex N)
theorem k_wire_Unhex {w0 : World} (N : Nat)  : SoundAt Try.prog w0 12 (ct_wire_Unhex N) :=
  s_wire_Unhex N (cs_cons (k_wire_digit) cs_nil)

abbrev A_veilref10_digit : Ag (Int) := (.one (.int .u8))
abbrev B_veilref10_digit : Pt (Int) := (.int .i64)
def ct_veilref10_digit : Ct := tct A_veilref10_digit B_veilref10_digit fun x => veilref10_digit x
def cs_veilref10_digit : List (FuncId × Ct) := []
def gs_veilref10_digit : List Gv := []
noncomputable def ls_veilref10_digit : List (Nat × Lf) := []
theorem r_veilref10_digit : RunIs Try.prog (cs_veilref10_digit) gs_veilref10_digit 0 (ls_veilref10_digit) Try.f27 A_veilref10_digit B_veilref10_digit (fun x => veilref10_digit_o x) := by
  intro x; kernel_rfl
theorem s_veilref10_digit {w0 : World}  (hcs : ∀ x ∈ cs_veilref10_digit, SoundAt Try.prog w0 x.1 x.2) : SoundAt Try.prog w0 27 ct_veilref10_digit := by
  exact sound_tct (fn_printed hcs (glob_nil _ _) Try.func27 (by kernel_rfl) (by kernel_rfl) (S := 0) (fun w _ => loopsOK_nil _) (fun _ => rfl) (r_veilref10_digit)) fun _ _ => veilref10_digit_tot _
theorem k_veilref10_digit {w0 : World}  : SoundAt Try.prog w0 27 ct_veilref10_digit :=
  s_veilref10_digit cs_nil

abbrev A_veilref10_Unhex : Ag (ByteArray) := (.one .str)
abbrev B_veilref10_Unhex : Pt ((((Nat × List Int) × Unit) × Int)) := (.tup (.cons (.tup (.cons (.lst .u8) (.one (.lit (.clo 5 []))))) (.one (.int .i64))))
def ct_veilref10_Unhex (N : Nat) : Ct := fct A_veilref10_Unhex B_veilref10_Unhex fun x => veilref10_Unhex N x
def cs_veilref10_Unhex (N : Nat) : List (FuncId × Ct) := [(27, ct_veilref10_digit)]
def gs_veilref10_Unhex : List Gv := []
def veilref10_Unhex_l0_H : Fm ((ByteArray × Unit × Unit × Nat × Int)) ((Nat × List Int)) := ⟨(.cons 0 .str (.cons 2 (.lit .nils) (.cons 3 (.lit (.int .i64 0)) (.cons 4 (.gsw 0 5) (.one 5 (.int .i64)))))), (.one 0 (.lst .u8))⟩
def veilref10_Unhex_l0_O : Fm (Nat) ((Nat × List Int)) := ⟨(.one 4 (.gsw 0 5)), (.one 0 (.lst .u8))⟩
def veilref10_Unhex_l0_T : Fm ((Unit × Unit)) (Unit) := ⟨(.cons 2 (.lit .nils) (.one 3 (.lit (.int .i64 104)))), .nil⟩
noncomputable def ls_veilref10_Unhex (N : Nat) : List (Nat × Lf) := [(0, loopCt veilref10_Unhex_l0_H veilref10_Unhex_l0_O veilref10_Unhex_l0_T 8 (veilref10_Unhex_l0 N) N)]
theorem veilref10_Unhex_l0_step (N : Nat) : StepIs Try.prog (cxOf Try.f13 (cs_veilref10_Unhex N) gs_veilref10_Unhex 0) (ls_veilref10_Unhex N) Try.f13 0 8 veilref10_Unhex_l0_H veilref10_Unhex_l0_O veilref10_Unhex_l0_T (veilref10_Unhex_l0 N) := by
  intro v; kernel_rfl
theorem r_veilref10_Unhex (N : Nat) : RunIs Try.prog (cs_veilref10_Unhex N) gs_veilref10_Unhex 0 (ls_veilref10_Unhex N) Try.f13 A_veilref10_Unhex B_veilref10_Unhex (fun x => veilref10_Unhex N x) := by
  intro x; kernel_rfl
theorem s_veilref10_Unhex {w0 : World} (N : Nat)  (hcs : ∀ x ∈ cs_veilref10_Unhex N, SoundAt Try.prog w0 x.1 x.2) : SoundAt Try.prog w0 13 (ct_veilref10_Unhex N) := by
  have L0 : ∀ w : Base, w.g = w0 → LoopOK Try.prog (cxOf Try.f13 (cs_veilref10_Unhex N) gs_veilref10_Unhex 0) w 0 (.loop (loopBody Try.f13 0)) (loopCt veilref10_Unhex_l0_H veilref10_Unhex_l0_O veilref10_Unhex_l0_T 8 (veilref10_Unhex_l0 N) N) :=
    loop_printed hcs (ls := ls_veilref10_Unhex N) (n := 100) (by kernel_rfl) (veilref10_Unhex_l0_step N) N fun w hw => loopsOK_list (lp_no (by kernel_rfl) lp_nil)
  exact fn_printed hcs (glob_nil _ _) Try.func13 (by kernel_rfl) (by kernel_rfl) (S := 0) (fun w hw => loopsOK_list (lp_yes (L0 w hw) (by kernel_rfl) lp_nil)) (fun _ => rfl) (r_veilref10_Unhex N)
theorem k_veilref10_Unhex {w0 : World} (N : Nat)  : SoundAt Try.prog w0 13 (ct_veilref10_Unhex N) :=
  s_veilref10_Unhex N (cs_cons (k_veilref10_digit) cs_nil)

abbrev A_veillaw10_WireHex : Ag ((((Nat × List Int) × Unit) × ByteArray)) := (.cons (.tup (.cons (.lst .u8) (.one (.lit (.clo 5 []))))) (.one .str))
abbrev B_veillaw10_WireHex : Pt (Bool) := .bool
def ct_veillaw10_WireHex (N : Nat) : Ct := fct A_veillaw10_WireHex B_veillaw10_WireHex fun x => veillaw10_WireHex N x.1 x.2
def cs_veillaw10_WireHex (N : Nat) : List (FuncId × Ct) := [(8, ct_veillaw10_room), (9, (ct_wire_Hex N)), (10, (ct_veilref10_Hex N)), (11, ct_veillaw10_roomy), (12, (ct_wire_Unhex N)), (13, (ct_veilref10_Unhex N)), (14, ct_veillaw10_same)]
def gs_veillaw10_WireHex : List Gv := []
noncomputable def ls_veillaw10_WireHex (N : Nat) : List (Nat × Lf) := []
theorem r_veillaw10_WireHex (N : Nat) : RunIs Try.prog (cs_veillaw10_WireHex N) gs_veillaw10_WireHex 1 (ls_veillaw10_WireHex N) Try.f3 A_veillaw10_WireHex B_veillaw10_WireHex (fun x => veillaw10_WireHex N x.1 x.2) := by
  intro x; kernel_rfl
theorem s_veillaw10_WireHex {w0 : World} (N : Nat)  (hcs : ∀ x ∈ cs_veillaw10_WireHex N, SoundAt Try.prog w0 x.1 x.2) : SoundAt Try.prog w0 3 (ct_veillaw10_WireHex N) := by
  exact fn_printed hcs (glob_nil _ _) Try.func3 (by kernel_rfl) (by kernel_rfl) (S := 1) (fun w _ => loopsOK_nil _) (fun _ => rfl) (r_veillaw10_WireHex N)
theorem k_veillaw10_WireHex {w0 : World} (N : Nat)  : SoundAt Try.prog w0 3 (ct_veillaw10_WireHex N) :=
  s_veillaw10_WireHex N (cs_cons (k_veillaw10_room) (cs_cons (k_wire_Hex N) (cs_cons (k_veilref10_Hex N) (cs_cons (k_veillaw10_roomy) (cs_cons (k_wire_Unhex N) (cs_cons (k_veilref10_Unhex N) (cs_cons (k_veillaw10_same) cs_nil)))))))

abbrev A_wire_AppendNumber_nil : Ag ((Unit × Int)) := (.cons (.lit .nils) (.one (.int .u64)))
abbrev B_wire_AppendNumber_nil : Pt (((Nat × List Int) × Unit)) := (.tup (.cons (.lst .u8) (.one (.lit (.clo 5 [])))))
def ct_wire_AppendNumber_nil (N : Nat) : Ct := fct A_wire_AppendNumber_nil B_wire_AppendNumber_nil fun x => wire_AppendNumber_nil N x.1 x.2
def cs_wire_AppendNumber_nil (N : Nat) : List (FuncId × Ct) := []
def gs_wire_AppendNumber_nil : List Gv := []
noncomputable abbrev is0_wire_AppendNumber_nil (N : Nat) : List (FuncId × Inl) := ((36, inlOf Try.prog (cs_wire_AppendNumber_nil N) gs_wire_AppendNumber_nil 0 100 [] Try.f36) :: [])
theorem isok0_wire_AppendNumber_nil (N : Nat) : InlAll Try.prog (cs_wire_AppendNumber_nil N) gs_wire_AppendNumber_nil 0 100 (is0_wire_AppendNumber_nil N) := ⟨⟨Try.f36, Try.func36, by kernel_rfl, by kernel_rfl, rfl⟩, trivial⟩
noncomputable abbrev is1_wire_AppendNumber_nil (N : Nat) : List (FuncId × Inl) := ((28, inlOf Try.prog (cs_wire_AppendNumber_nil N) gs_wire_AppendNumber_nil 0 100 (is0_wire_AppendNumber_nil N) Try.f28) :: (is0_wire_AppendNumber_nil N))
theorem isok1_wire_AppendNumber_nil (N : Nat) : InlAll Try.prog (cs_wire_AppendNumber_nil N) gs_wire_AppendNumber_nil 0 100 (is1_wire_AppendNumber_nil N) := ⟨⟨Try.f28, Try.func28, by kernel_rfl, by kernel_rfl, rfl⟩, (isok0_wire_AppendNumber_nil N)⟩
noncomputable abbrev is_wire_AppendNumber_nil (N : Nat) : List (FuncId × Inl) := (is1_wire_AppendNumber_nil N)
theorem isok_wire_AppendNumber_nil (N : Nat) : InlAll Try.prog (cs_wire_AppendNumber_nil N) gs_wire_AppendNumber_nil 0 100 (is_wire_AppendNumber_nil N) := (isok1_wire_AppendNumber_nil N)
def wire_AppendNumber_nil_l0_H : Fm ((Int × Unit × Nat)) ((Nat × List Int)) := ⟨(.cons 1 (.int .u64) (.cons 4 (.lit .nils) (.one 5 (.gsw 0 5)))), (.one 0 (.lst .u8))⟩
def wire_AppendNumber_nil_l0_O : Fm ((Int × Nat)) ((Nat × List Int)) := ⟨(.cons 1 (.int .u64) (.one 5 (.gsw 0 5))), (.one 0 (.lst .u8))⟩
def wire_AppendNumber_nil_l0_T : Fm (Unit) (Unit) := ⟨.nil, .nil⟩
noncomputable def ls_wire_AppendNumber_nil (N : Nat) : List (Nat × Lf) := [(0, loopCt wire_AppendNumber_nil_l0_H wire_AppendNumber_nil_l0_O wire_AppendNumber_nil_l0_T 4 (wire_AppendNumber_nil_l0 N) N)]
theorem wire_AppendNumber_nil_l0_step (N : Nat) : StepIs Try.prog (cxIn Try.f15 (cs_wire_AppendNumber_nil N) gs_wire_AppendNumber_nil 0 (is_wire_AppendNumber_nil N)) (ls_wire_AppendNumber_nil N) Try.f15 0 4 wire_AppendNumber_nil_l0_H wire_AppendNumber_nil_l0_O wire_AppendNumber_nil_l0_T (wire_AppendNumber_nil_l0 N) := by
  intro v; kernel_rfl
theorem r_wire_AppendNumber_nil (N : Nat) : RunIs Try.prog (cs_wire_AppendNumber_nil N) gs_wire_AppendNumber_nil 0 (ls_wire_AppendNumber_nil N) Try.f15 A_wire_AppendNumber_nil B_wire_AppendNumber_nil (fun x => wire_AppendNumber_nil N x.1 x.2) (fun g => lkI g (is_wire_AppendNumber_nil N)) := by
  intro x; kernel_rfl
theorem s_wire_AppendNumber_nil {w0 : World} (N : Nat)  (hcs : ∀ x ∈ cs_wire_AppendNumber_nil N, SoundAt Try.prog w0 x.1 x.2) : SoundAt Try.prog w0 15 (ct_wire_AppendNumber_nil N) := by
  have L0 : ∀ w : Base, w.g = w0 → LoopOK Try.prog (cxIn Try.f15 (cs_wire_AppendNumber_nil N) gs_wire_AppendNumber_nil 0 (is_wire_AppendNumber_nil N)) w 0 (.loop (loopBody Try.f15 0)) (loopCt wire_AppendNumber_nil_l0_H wire_AppendNumber_nil_l0_O wire_AppendNumber_nil_l0_T 4 (wire_AppendNumber_nil_l0 N) N) :=
    loop_printedI hcs (isok_wire_AppendNumber_nil N) (ls := ls_wire_AppendNumber_nil N) (n := 100) (by kernel_rfl) (wire_AppendNumber_nil_l0_step N) N fun w hw => loopsOK_list (lp_no (by kernel_rfl) lp_nil)
  exact fn_printedI hcs (glob_nil _ _) (isok_wire_AppendNumber_nil N) Try.func15 (by kernel_rfl) (by kernel_rfl) (S := 0) (fun w hw => loopsOK_list (lp_yes (L0 w hw) (by kernel_rfl) lp_nil)) (fun _ => rfl) (r_wire_AppendNumber_nil N)
theorem k_wire_AppendNumber_nil {w0 : World} (N : Nat)  : SoundAt Try.prog w0 15 (ct_wire_AppendNumber_nil N) :=
  s_wire_AppendNumber_nil N cs_nil

abbrev A_wire_AppendNumber : Ag ((((Nat × List Int) × Unit) × Int)) := (.cons (.tup (.cons (.lst .u8) (.one (.lit (.clo 5 []))))) (.one (.int .u64)))
abbrev B_wire_AppendNumber : Pt (((Nat × List Int) × Unit)) := (.tup (.cons (.lst .u8) (.one (.lit (.clo 5 [])))))
def ct_wire_AppendNumber (N : Nat) : Ct := fct A_wire_AppendNumber B_wire_AppendNumber fun x => wire_AppendNumber N x.1 x.2
def cs_wire_AppendNumber (N : Nat) : List (FuncId × Ct) := []
def gs_wire_AppendNumber : List Gv := []
noncomputable abbrev is0_wire_AppendNumber (N : Nat) : List (FuncId × Inl) := ((36, inlOf Try.prog (cs_wire_AppendNumber N) gs_wire_AppendNumber 1 100 [] Try.f36) :: [])
theorem isok0_wire_AppendNumber (N : Nat) : InlAll Try.prog (cs_wire_AppendNumber N) gs_wire_AppendNumber 1 100 (is0_wire_AppendNumber N) := ⟨⟨Try.f36, Try.func36, by kernel_rfl, by kernel_rfl, rfl⟩, trivial⟩
noncomputable abbrev is1_wire_AppendNumber (N : Nat) : List (FuncId × Inl) := ((28, inlOf Try.prog (cs_wire_AppendNumber N) gs_wire_AppendNumber 1 100 (is0_wire_AppendNumber N) Try.f28) :: (is0_wire_AppendNumber N))
theorem isok1_wire_AppendNumber (N : Nat) : InlAll Try.prog (cs_wire_AppendNumber N) gs_wire_AppendNumber 1 100 (is1_wire_AppendNumber N) := ⟨⟨Try.f28, Try.func28, by kernel_rfl, by kernel_rfl, rfl⟩, (isok0_wire_AppendNumber N)⟩
noncomputable abbrev is_wire_AppendNumber (N : Nat) : List (FuncId × Inl) := (is1_wire_AppendNumber N)
theorem isok_wire_AppendNumber (N : Nat) : InlAll Try.prog (cs_wire_AppendNumber N) gs_wire_AppendNumber 1 100 (is_wire_AppendNumber N) := (isok1_wire_AppendNumber N)
def wire_AppendNumber_l0_H : Fm ((Int × Unit × Nat)) ((Nat × List Int)) := ⟨(.cons 1 (.int .u64) (.cons 4 (.lit .nils) (.one 5 (.gsw 1 5)))), (.one 1 (.lst .u8))⟩
def wire_AppendNumber_l0_O : Fm ((Int × Nat)) ((Nat × List Int)) := ⟨(.cons 1 (.int .u64) (.one 5 (.gsw 1 5))), (.one 1 (.lst .u8))⟩
def wire_AppendNumber_l0_T : Fm (Unit) (Unit) := ⟨.nil, .nil⟩
noncomputable def ls_wire_AppendNumber (N : Nat) : List (Nat × Lf) := [(0, loopCt wire_AppendNumber_l0_H wire_AppendNumber_l0_O wire_AppendNumber_l0_T 6 (wire_AppendNumber_l0 N) N)]
theorem wire_AppendNumber_l0_step (N : Nat) : StepIs Try.prog (cxIn Try.f15 (cs_wire_AppendNumber N) gs_wire_AppendNumber 1 (is_wire_AppendNumber N)) (ls_wire_AppendNumber N) Try.f15 0 6 wire_AppendNumber_l0_H wire_AppendNumber_l0_O wire_AppendNumber_l0_T (wire_AppendNumber_l0 N) := by
  intro v; kernel_rfl
theorem r_wire_AppendNumber (N : Nat) : RunIs Try.prog (cs_wire_AppendNumber N) gs_wire_AppendNumber 1 (ls_wire_AppendNumber N) Try.f15 A_wire_AppendNumber B_wire_AppendNumber (fun x => wire_AppendNumber N x.1 x.2) (fun g => lkI g (is_wire_AppendNumber N)) := by
  intro x; kernel_rfl
theorem s_wire_AppendNumber {w0 : World} (N : Nat)  (hcs : ∀ x ∈ cs_wire_AppendNumber N, SoundAt Try.prog w0 x.1 x.2) : SoundAt Try.prog w0 15 (ct_wire_AppendNumber N) := by
  have L0 : ∀ w : Base, w.g = w0 → LoopOK Try.prog (cxIn Try.f15 (cs_wire_AppendNumber N) gs_wire_AppendNumber 1 (is_wire_AppendNumber N)) w 0 (.loop (loopBody Try.f15 0)) (loopCt wire_AppendNumber_l0_H wire_AppendNumber_l0_O wire_AppendNumber_l0_T 6 (wire_AppendNumber_l0 N) N) :=
    loop_printedI hcs (isok_wire_AppendNumber N) (ls := ls_wire_AppendNumber N) (n := 100) (by kernel_rfl) (wire_AppendNumber_l0_step N) N fun w hw => loopsOK_list (lp_no (by kernel_rfl) lp_nil)
  exact fn_printedI hcs (glob_nil _ _) (isok_wire_AppendNumber N) Try.func15 (by kernel_rfl) (by kernel_rfl) (S := 1) (fun w hw => loopsOK_list (lp_yes (L0 w hw) (by kernel_rfl) lp_nil)) (fun _ => rfl) (r_wire_AppendNumber N)
theorem k_wire_AppendNumber {w0 : World} (N : Nat)  : SoundAt Try.prog w0 15 (ct_wire_AppendNumber N) :=
  s_wire_AppendNumber N cs_nil

abbrev A_wire_AppendBytes : Ag ((((Nat × List Int) × Unit) × ((Nat × List Int) × Unit))) := (.cons (.tup (.cons (.lst .u8) (.one (.lit (.clo 5 []))))) (.one (.tup (.cons (.lst .u8) (.one (.lit (.clo 5 [])))))))
abbrev B_wire_AppendBytes : Pt (((Nat × List Int) × Unit)) := (.tup (.cons (.lst .u8) (.one (.lit (.clo 5 [])))))
def ct_wire_AppendBytes (N : Nat) : Ct := fct A_wire_AppendBytes B_wire_AppendBytes fun x => wire_AppendBytes N x.1 x.2
def cs_wire_AppendBytes (N : Nat) : List (FuncId × Ct) := [(15, (ct_wire_AppendNumber N))]
def gs_wire_AppendBytes : List Gv := []
noncomputable def ls_wire_AppendBytes (N : Nat) : List (Nat × Lf) := []
theorem r_wire_AppendBytes (N : Nat) : RunIs Try.prog (cs_wire_AppendBytes N) gs_wire_AppendBytes 2 (ls_wire_AppendBytes N) Try.f16 A_wire_AppendBytes B_wire_AppendBytes (fun x => wire_AppendBytes N x.1 x.2) := by
  intro x; kernel_rfl
theorem s_wire_AppendBytes {w0 : World} (N : Nat)  (hcs : ∀ x ∈ cs_wire_AppendBytes N, SoundAt Try.prog w0 x.1 x.2) : SoundAt Try.prog w0 16 (ct_wire_AppendBytes N) := by
  exact fn_printed hcs (glob_nil _ _) Try.func16 (by kernel_rfl) (by kernel_rfl) (S := 2) (fun w _ => loopsOK_nil _) (fun _ => rfl) (r_wire_AppendBytes N)
theorem k_wire_AppendBytes {w0 : World} (N : Nat)  : SoundAt Try.prog w0 16 (ct_wire_AppendBytes N) :=
  s_wire_AppendBytes N (cs_cons (k_wire_AppendNumber N) cs_nil)

abbrev A_veilref10_Number : Ag (Int) := (.one (.int .u64))
abbrev B_veilref10_Number : Pt (((Nat × List Int) × Unit)) := (.tup (.cons (.lst .u8) (.one (.lit (.clo 5 [])))))
def ct_veilref10_Number (N : Nat) : Ct := fct A_veilref10_Number B_veilref10_Number fun x => veilref10_Number N x
def cs_veilref10_Number (N : Nat) : List (FuncId × Ct) := []
def gs_veilref10_Number : List Gv := []
def veilref10_Number_l0_H : Fm ((Int × Unit × Nat)) ((Nat × List Int)) := ⟨(.cons 0 (.int .u64) (.cons 2 (.lit .nils) (.one 3 (.gsw 0 5)))), (.one 0 (.lst .u8))⟩
def veilref10_Number_l0_O : Fm ((Int × Nat)) ((Nat × List Int)) := ⟨(.cons 0 (.int .u64) (.one 3 (.gsw 0 5))), (.one 0 (.lst .u8))⟩
def veilref10_Number_l0_T : Fm (Unit) (Unit) := ⟨.nil, .nil⟩
noncomputable def ls_veilref10_Number (N : Nat) : List (Nat × Lf) := [(0, loopCt veilref10_Number_l0_H veilref10_Number_l0_O veilref10_Number_l0_T 2 (veilref10_Number_l0 N) N)]
theorem veilref10_Number_l0_step (N : Nat) : StepIs Try.prog (cxOf Try.f17 (cs_veilref10_Number N) gs_veilref10_Number 0) (ls_veilref10_Number N) Try.f17 0 2 veilref10_Number_l0_H veilref10_Number_l0_O veilref10_Number_l0_T (veilref10_Number_l0 N) := by
  intro v; kernel_rfl
theorem r_veilref10_Number (N : Nat) : RunIs Try.prog (cs_veilref10_Number N) gs_veilref10_Number 0 (ls_veilref10_Number N) Try.f17 A_veilref10_Number B_veilref10_Number (fun x => veilref10_Number N x) := by
  intro x; kernel_rfl
theorem s_veilref10_Number {w0 : World} (N : Nat)  (hcs : ∀ x ∈ cs_veilref10_Number N, SoundAt Try.prog w0 x.1 x.2) : SoundAt Try.prog w0 17 (ct_veilref10_Number N) := by
  have L0 : ∀ w : Base, w.g = w0 → LoopOK Try.prog (cxOf Try.f17 (cs_veilref10_Number N) gs_veilref10_Number 0) w 0 (.loop (loopBody Try.f17 0)) (loopCt veilref10_Number_l0_H veilref10_Number_l0_O veilref10_Number_l0_T 2 (veilref10_Number_l0 N) N) :=
    loop_printed hcs (ls := ls_veilref10_Number N) (n := 100) (by kernel_rfl) (veilref10_Number_l0_step N) N fun w hw => loopsOK_list (lp_no (by kernel_rfl) lp_nil)
  exact fn_printed hcs (glob_nil _ _) Try.func17 (by kernel_rfl) (by kernel_rfl) (S := 0) (fun w hw => loopsOK_list (lp_yes (L0 w hw) (by kernel_rfl) lp_nil)) (fun _ => rfl) (r_veilref10_Number N)
theorem k_veilref10_Number {w0 : World} (N : Nat)  : SoundAt Try.prog w0 17 (ct_veilref10_Number N) :=
  s_veilref10_Number N cs_nil

abbrev A_veilref10_List : Ag (((Nat × List Int) × Unit)) := (.one (.tup (.cons (.lst .u8) (.one (.lit (.clo 5 []))))))
abbrev B_veilref10_List : Pt (((Nat × List Int) × Unit)) := (.tup (.cons (.lst .u8) (.one (.lit (.clo 5 [])))))
def ct_veilref10_List (N : Nat) : Ct := fct A_veilref10_List B_veilref10_List fun x => veilref10_List N x
def cs_veilref10_List (N : Nat) : List (FuncId × Ct) := [(17, (ct_veilref10_Number N))]
def gs_veilref10_List : List Gv := []
noncomputable def ls_veilref10_List (N : Nat) : List (Nat × Lf) := []
theorem r_veilref10_List (N : Nat) : RunIs Try.prog (cs_veilref10_List N) gs_veilref10_List 1 (ls_veilref10_List N) Try.f18 A_veilref10_List B_veilref10_List (fun x => veilref10_List N x) := by
  intro x; kernel_rfl
theorem s_veilref10_List {w0 : World} (N : Nat)  (hcs : ∀ x ∈ cs_veilref10_List N, SoundAt Try.prog w0 x.1 x.2) : SoundAt Try.prog w0 18 (ct_veilref10_List N) := by
  exact fn_printed hcs (glob_nil _ _) Try.func18 (by kernel_rfl) (by kernel_rfl) (S := 1) (fun w _ => loopsOK_nil _) (fun _ => rfl) (r_veilref10_List N)
theorem k_veilref10_List {w0 : World} (N : Nat)  : SoundAt Try.prog w0 18 (ct_veilref10_List N) :=
  s_veilref10_List N (cs_cons (k_veilref10_Number N) cs_nil)

abbrev A_slices_Clone_of_byte_byte : Ag (((Nat × List Int) × Unit)) := (.one (.tup (.cons (.lst .u8) (.one (.lit (.clo 5 []))))))
abbrev B_slices_Clone_of_byte_byte : Pt (((Nat × List Int) × Unit)) := (.tup (.cons (.lst .u8) (.one (.lit (.clo 5 [])))))
def ct_slices_Clone_of_byte_byte : Ct := fct A_slices_Clone_of_byte_byte B_slices_Clone_of_byte_byte fun x => slices_Clone_of_byte_byte x
theorem r0_slices_Clone_of_byte_byte : run Try.prog (fun _ => none) (glAt [] 0) 1 [] (fun _ => none) 100 Try.f30 [.nils] none B_slices_Clone_of_byte_byte.get = slices_Clone_of_byte_byte ((0, []), ()) := by
  kernel_rfl
theorem r1_slices_Clone_of_byte_byte : ∀ m l, run Try.prog (fun _ => none) (glAt [] 0) 1 [(0, .ints .u8 m l)] (fun _ => none) 100 Try.f30 [.gp 0 0 m 5 true 0] none B_slices_Clone_of_byte_byte.get = slices_Clone_of_byte_byte ((m, l), ()) := by
  intro m l; kernel_rfl
theorem k_slices_Clone_of_byte_byte {w0 : World} : SoundAt Try.prog w0 30 ct_slices_Clone_of_byte_byte :=
  fn_nil (n := 100) Try.func30 (by kernel_rfl) (by kernel_rfl) r0_slices_Clone_of_byte_byte r1_slices_Clone_of_byte_byte

abbrev A_veillaw10_live : Ag (Unit) := .nil
abbrev B_veillaw10_live : Pt (Bool) := .bool
def ct_veillaw10_live (N : Nat) : Ct := fct A_veillaw10_live B_veillaw10_live fun x => veillaw10_live N
def cs_veillaw10_live (N : Nat) : List (FuncId × Ct) := [(15, (ct_wire_AppendNumber_nil N)), (30, ct_slices_Clone_of_byte_byte)]
def gs_veillaw10_live : List Gv := []
noncomputable abbrev is0_veillaw10_live (N : Nat) : List (FuncId × Inl) := ((21, (inlOf Try.prog (cs_veillaw10_live N) gs_veillaw10_live 0 100 [] Try.f21)) :: [])
theorem isok0_veillaw10_live {w0 : World} (N : Nat) (hcs : ∀ x ∈ cs_veillaw10_live N, SoundAt Try.prog w0 x.1 x.2) : AllOK Try.prog w0 gs_veillaw10_live 0 (is0_veillaw10_live N) := allok_cons (one_of hcs allok_nil Try.func21 (by kernel_rfl) (by kernel_rfl)) allok_nil
noncomputable abbrev is1_veillaw10_live (N : Nat) : List (FuncId × Inl) := ((34, (inlOf Try.prog (cs_veillaw10_live N) gs_veillaw10_live 0 100 (is0_veillaw10_live N) Try.f34)) :: (is0_veillaw10_live N))
theorem isok1_veillaw10_live {w0 : World} (N : Nat) (hcs : ∀ x ∈ cs_veillaw10_live N, SoundAt Try.prog w0 x.1 x.2) : AllOK Try.prog w0 gs_veillaw10_live 0 (is1_veillaw10_live N) := allok_cons (one_of hcs (isok0_veillaw10_live N hcs) Try.func34 (by kernel_rfl) (by kernel_rfl)) (isok0_veillaw10_live N hcs)
noncomputable abbrev is2_veillaw10_live (N : Nat) : List (FuncId × Inl) := ((31, (inlOf Try.prog (cs_veillaw10_live N) gs_veillaw10_live 0 100 (is1_veillaw10_live N) Try.f31)) :: (is1_veillaw10_live N))
theorem isok2_veillaw10_live {w0 : World} (N : Nat) (hcs : ∀ x ∈ cs_veillaw10_live N, SoundAt Try.prog w0 x.1 x.2) : AllOK Try.prog w0 gs_veillaw10_live 0 (is2_veillaw10_live N) := allok_cons (one_of hcs (isok1_veillaw10_live N hcs) Try.func31 (by kernel_rfl) (by kernel_rfl)) (isok1_veillaw10_live N hcs)
noncomputable abbrev is3_veillaw10_live (N : Nat) : List (FuncId × Inl) := ((35, (inlOf Try.prog (cs_veillaw10_live N) gs_veillaw10_live 0 100 (is2_veillaw10_live N) Try.f35)) :: (is2_veillaw10_live N))
theorem isok3_veillaw10_live {w0 : World} (N : Nat) (hcs : ∀ x ∈ cs_veillaw10_live N, SoundAt Try.prog w0 x.1 x.2) : AllOK Try.prog w0 gs_veillaw10_live 0 (is3_veillaw10_live N) := allok_cons (one_of hcs (isok2_veillaw10_live N hcs) Try.func35 (by kernel_rfl) (by kernel_rfl)) (isok2_veillaw10_live N hcs)
theorem io32_0_veillaw10_live (N : Nat) : IoStep (inlOf Try.prog (cs_veillaw10_live N) gs_veillaw10_live 0 100 (is3_veillaw10_live N) Try.f32) (.one (.lit (.ptr 10 [] 53))) (.cons 8 (.lst .u8) (.one 10 (.agg (.cons (.lit (.bool true)) (.cons (.gpw 8 5) (.one (.int .i64))))))) (.int .u64) (.cons 8 (.lst .u8) (.one 10 (.agg (.cons (.lit (.bool true)) (.cons (.gpw 8 5) (.one (.int .i64))))))) 11 [8] (fun x => io_veillaw10_live_p_wire_Reader_count N x.1 x.2) := by
  intro x; kernel_rfl
noncomputable abbrev is4_veillaw10_live (N : Nat) : List (FuncId × Inl) := ((32, (Inl.ioOr (.one (.lit (.ptr 10 [] 53))) (.cons 8 (.lst .u8) (.one 10 (.agg (.cons (.lit (.bool true)) (.cons (.gpw 8 5) (.one (.int .i64))))))) (.int .u64) (.cons 8 (.lst .u8) (.one 10 (.agg (.cons (.lit (.bool true)) (.cons (.gpw 8 5) (.one (.int .i64))))))) 11 [8] (fun x => io_veillaw10_live_p_wire_Reader_count N x.1 x.2) (inlOf Try.prog (cs_veillaw10_live N) gs_veillaw10_live 0 100 (is3_veillaw10_live N) Try.f32))) :: (is3_veillaw10_live N))
theorem isok4_veillaw10_live {w0 : World} (N : Nat) (hcs : ∀ x ∈ cs_veillaw10_live N, SoundAt Try.prog w0 x.1 x.2) : AllOK Try.prog w0 gs_veillaw10_live 0 (is4_veillaw10_live N) := allok_cons (one_io (one_of hcs (isok3_veillaw10_live N hcs) Try.func32 (by kernel_rfl) (by kernel_rfl)) (one_of hcs (isok3_veillaw10_live N hcs) Try.func32 (by kernel_rfl) (by kernel_rfl)) (io32_0_veillaw10_live N) (by kernel_rfl) (fun _ => rfl)) (isok3_veillaw10_live N hcs)
noncomputable abbrev is5_veillaw10_live (N : Nat) : List (FuncId × Inl) := ((33, (inlOf Try.prog (cs_veillaw10_live N) gs_veillaw10_live 0 100 (is4_veillaw10_live N) Try.f33)) :: (is4_veillaw10_live N))
theorem isok5_veillaw10_live {w0 : World} (N : Nat) (hcs : ∀ x ∈ cs_veillaw10_live N, SoundAt Try.prog w0 x.1 x.2) : AllOK Try.prog w0 gs_veillaw10_live 0 (is5_veillaw10_live N) := allok_cons (one_of hcs (isok4_veillaw10_live N hcs) Try.func33 (by kernel_rfl) (by kernel_rfl)) (isok4_veillaw10_live N hcs)
noncomputable abbrev is6_veillaw10_live (N : Nat) : List (FuncId × Inl) := ((22, (inlOf Try.prog (cs_veillaw10_live N) gs_veillaw10_live 0 100 (is5_veillaw10_live N) Try.f22)) :: (is5_veillaw10_live N))
theorem isok6_veillaw10_live {w0 : World} (N : Nat) (hcs : ∀ x ∈ cs_veillaw10_live N, SoundAt Try.prog w0 x.1 x.2) : AllOK Try.prog w0 gs_veillaw10_live 0 (is6_veillaw10_live N) := allok_cons (one_of hcs (isok5_veillaw10_live N hcs) Try.func22 (by kernel_rfl) (by kernel_rfl)) (isok5_veillaw10_live N hcs)
noncomputable abbrev is7_veillaw10_live (N : Nat) : List (FuncId × Inl) := ((23, (inlOf Try.prog (cs_veillaw10_live N) gs_veillaw10_live 0 100 (is6_veillaw10_live N) Try.f23)) :: (is6_veillaw10_live N))
theorem isok7_veillaw10_live {w0 : World} (N : Nat) (hcs : ∀ x ∈ cs_veillaw10_live N, SoundAt Try.prog w0 x.1 x.2) : AllOK Try.prog w0 gs_veillaw10_live 0 (is7_veillaw10_live N) := allok_cons (one_of hcs (isok6_veillaw10_live N hcs) Try.func23 (by kernel_rfl) (by kernel_rfl)) (isok6_veillaw10_live N hcs)
noncomputable abbrev is8_veillaw10_live (N : Nat) : List (FuncId × Inl) := ((29, (inlOf Try.prog (cs_veillaw10_live N) gs_veillaw10_live 0 100 (is7_veillaw10_live N) Try.f29)) :: (is7_veillaw10_live N))
theorem isok8_veillaw10_live {w0 : World} (N : Nat) (hcs : ∀ x ∈ cs_veillaw10_live N, SoundAt Try.prog w0 x.1 x.2) : AllOK Try.prog w0 gs_veillaw10_live 0 (is8_veillaw10_live N) := allok_cons (one_of hcs (isok7_veillaw10_live N hcs) Try.func29 (by kernel_rfl) (by kernel_rfl)) (isok7_veillaw10_live N hcs)
noncomputable abbrev is_veillaw10_live (N : Nat) : List (FuncId × Inl) := (is8_veillaw10_live N)
theorem isok_veillaw10_live {w0 : World} (N : Nat) (hcs : ∀ x ∈ cs_veillaw10_live N, SoundAt Try.prog w0 x.1 x.2) : AllOK Try.prog w0 gs_veillaw10_live 0 (is_veillaw10_live N) := (isok8_veillaw10_live N hcs)
noncomputable def ls_veillaw10_live (N : Nat) : List (Nat × Lf) := []
theorem r_veillaw10_live (N : Nat) : RunIs Try.prog (cs_veillaw10_live N) gs_veillaw10_live 0 (ls_veillaw10_live N) Try.f19 A_veillaw10_live B_veillaw10_live (fun x => veillaw10_live N) (fun g => lkI g (is_veillaw10_live N)) := by
  intro x; kernel_rfl
theorem s_veillaw10_live {w0 : World} (N : Nat)  (hcs : ∀ x ∈ cs_veillaw10_live N, SoundAt Try.prog w0 x.1 x.2) : SoundAt Try.prog w0 19 (ct_veillaw10_live N) := by
  exact fn_printedO hcs (glob_nil _ _) (isok_veillaw10_live N hcs) Try.func19 (by kernel_rfl) (by kernel_rfl) (S := 0) (fun w _ => loopsOK_nil _) (fun _ => rfl) (r_veillaw10_live N)
theorem k_veillaw10_live {w0 : World} (N : Nat)  : SoundAt Try.prog w0 19 (ct_veillaw10_live N) :=
  s_veillaw10_live N (cs_cons (k_wire_AppendNumber_nil N) (cs_cons (k_slices_Clone_of_byte_byte) cs_nil))

abbrev A_veillaw10_WireTexts : Ag ((((Nat × List Int) × Unit) × ByteArray)) := (.cons (.tup (.cons (.lst .u8) (.one (.lit (.clo 5 []))))) (.one .str))
abbrev B_veillaw10_WireTexts : Pt (Bool) := .bool
def ct_veillaw10_WireTexts (N : Nat) : Ct := fct A_veillaw10_WireTexts B_veillaw10_WireTexts fun x => veillaw10_WireTexts N x.1 x.2
def cs_veillaw10_WireTexts (N : Nat) : List (FuncId × Ct) := [(9, (ct_wire_Hex N)), (12, (ct_wire_Unhex N)), (14, ct_veillaw10_same), (19, (ct_veillaw10_live N))]
def gs_veillaw10_WireTexts : List Gv := []
noncomputable def ls_veillaw10_WireTexts (N : Nat) : List (Nat × Lf) := []
theorem r_veillaw10_WireTexts (N : Nat) : RunIs Try.prog (cs_veillaw10_WireTexts N) gs_veillaw10_WireTexts 1 (ls_veillaw10_WireTexts N) Try.f6 A_veillaw10_WireTexts B_veillaw10_WireTexts (fun x => veillaw10_WireTexts N x.1 x.2) := by
  intro x; kernel_rfl
theorem s_veillaw10_WireTexts {w0 : World} (N : Nat)  (hcs : ∀ x ∈ cs_veillaw10_WireTexts N, SoundAt Try.prog w0 x.1 x.2) : SoundAt Try.prog w0 6 (ct_veillaw10_WireTexts N) := by
  exact fn_printed hcs (glob_nil _ _) Try.func6 (by kernel_rfl) (by kernel_rfl) (S := 1) (fun w _ => loopsOK_nil _) (fun _ => rfl) (r_veillaw10_WireTexts N)
theorem k_veillaw10_WireTexts {w0 : World} (N : Nat)  : SoundAt Try.prog w0 6 (ct_veillaw10_WireTexts N) :=
  s_veillaw10_WireTexts N (cs_cons (k_wire_Hex N) (cs_cons (k_wire_Unhex N) (cs_cons (k_veillaw10_same) (cs_cons (k_veillaw10_live N) cs_nil))))

abbrev A_wire_AppendBytes_nil : Ag ((Unit × ((Nat × List Int) × Unit))) := (.cons (.lit .nils) (.one (.tup (.cons (.lst .u8) (.one (.lit (.clo 5 [])))))))
abbrev B_wire_AppendBytes_nil : Pt (((Nat × List Int) × Unit)) := (.tup (.cons (.lst .u8) (.one (.lit (.clo 5 [])))))
def ct_wire_AppendBytes_nil (N : Nat) : Ct := fct A_wire_AppendBytes_nil B_wire_AppendBytes_nil fun x => wire_AppendBytes_nil N x.1 x.2
def cs_wire_AppendBytes_nil (N : Nat) : List (FuncId × Ct) := [(15, (ct_wire_AppendNumber_nil N))]
def gs_wire_AppendBytes_nil : List Gv := []
noncomputable def ls_wire_AppendBytes_nil (N : Nat) : List (Nat × Lf) := []
theorem r_wire_AppendBytes_nil (N : Nat) : RunIs Try.prog (cs_wire_AppendBytes_nil N) gs_wire_AppendBytes_nil 1 (ls_wire_AppendBytes_nil N) Try.f16 A_wire_AppendBytes_nil B_wire_AppendBytes_nil (fun x => wire_AppendBytes_nil N x.1 x.2) := by
  intro x; kernel_rfl
theorem s_wire_AppendBytes_nil {w0 : World} (N : Nat)  (hcs : ∀ x ∈ cs_wire_AppendBytes_nil N, SoundAt Try.prog w0 x.1 x.2) : SoundAt Try.prog w0 16 (ct_wire_AppendBytes_nil N) := by
  exact fn_printed hcs (glob_nil _ _) Try.func16 (by kernel_rfl) (by kernel_rfl) (S := 1) (fun w _ => loopsOK_nil _) (fun _ => rfl) (r_wire_AppendBytes_nil N)
theorem k_wire_AppendBytes_nil {w0 : World} (N : Nat)  : SoundAt Try.prog w0 16 (ct_wire_AppendBytes_nil N) :=
  s_wire_AppendBytes_nil N (cs_cons (k_wire_AppendNumber_nil N) cs_nil)

abbrev A_veillaw10_WireOne : Ag (((Nat × List Int) × Unit)) := (.one (.tup (.cons (.lst .u8) (.one (.lit (.clo 5 []))))))
abbrev B_veillaw10_WireOne : Pt (Bool) := .bool
def ct_veillaw10_WireOne (N : Nat) : Ct := fct A_veillaw10_WireOne B_veillaw10_WireOne fun x => veillaw10_WireOne N x
def cs_veillaw10_WireOne (N : Nat) : List (FuncId × Ct) := [(14, ct_veillaw10_same), (15, (ct_wire_AppendNumber_nil N)), (16, (ct_wire_AppendBytes_nil N)), (19, (ct_veillaw10_live N)), (30, ct_slices_Clone_of_byte_byte)]
def gs_veillaw10_WireOne : List Gv := []
noncomputable abbrev is0_veillaw10_WireOne (N : Nat) : List (FuncId × Inl) := ((21, (inlOf Try.prog (cs_veillaw10_WireOne N) gs_veillaw10_WireOne 1 100 [] Try.f21)) :: [])
theorem isok0_veillaw10_WireOne {w0 : World} (N : Nat) (hcs : ∀ x ∈ cs_veillaw10_WireOne N, SoundAt Try.prog w0 x.1 x.2) : AllOK Try.prog w0 gs_veillaw10_WireOne 1 (is0_veillaw10_WireOne N) := allok_cons (one_of hcs allok_nil Try.func21 (by kernel_rfl) (by kernel_rfl)) allok_nil
noncomputable abbrev is1_veillaw10_WireOne (N : Nat) : List (FuncId × Inl) := ((34, (inlOf Try.prog (cs_veillaw10_WireOne N) gs_veillaw10_WireOne 1 100 (is0_veillaw10_WireOne N) Try.f34)) :: (is0_veillaw10_WireOne N))
theorem isok1_veillaw10_WireOne {w0 : World} (N : Nat) (hcs : ∀ x ∈ cs_veillaw10_WireOne N, SoundAt Try.prog w0 x.1 x.2) : AllOK Try.prog w0 gs_veillaw10_WireOne 1 (is1_veillaw10_WireOne N) := allok_cons (one_of hcs (isok0_veillaw10_WireOne N hcs) Try.func34 (by kernel_rfl) (by kernel_rfl)) (isok0_veillaw10_WireOne N hcs)
noncomputable abbrev is2_veillaw10_WireOne (N : Nat) : List (FuncId × Inl) := ((31, (inlOf Try.prog (cs_veillaw10_WireOne N) gs_veillaw10_WireOne 1 100 (is1_veillaw10_WireOne N) Try.f31)) :: (is1_veillaw10_WireOne N))
theorem isok2_veillaw10_WireOne {w0 : World} (N : Nat) (hcs : ∀ x ∈ cs_veillaw10_WireOne N, SoundAt Try.prog w0 x.1 x.2) : AllOK Try.prog w0 gs_veillaw10_WireOne 1 (is2_veillaw10_WireOne N) := allok_cons (one_of hcs (isok1_veillaw10_WireOne N hcs) Try.func31 (by kernel_rfl) (by kernel_rfl)) (isok1_veillaw10_WireOne N hcs)
noncomputable abbrev is3_veillaw10_WireOne (N : Nat) : List (FuncId × Inl) := ((35, (inlOf Try.prog (cs_veillaw10_WireOne N) gs_veillaw10_WireOne 1 100 (is2_veillaw10_WireOne N) Try.f35)) :: (is2_veillaw10_WireOne N))
theorem isok3_veillaw10_WireOne {w0 : World} (N : Nat) (hcs : ∀ x ∈ cs_veillaw10_WireOne N, SoundAt Try.prog w0 x.1 x.2) : AllOK Try.prog w0 gs_veillaw10_WireOne 1 (is3_veillaw10_WireOne N) := allok_cons (one_of hcs (isok2_veillaw10_WireOne N hcs) Try.func35 (by kernel_rfl) (by kernel_rfl)) (isok2_veillaw10_WireOne N hcs)
theorem io32_0_veillaw10_WireOne (N : Nat) : IoStep (inlOf Try.prog (cs_veillaw10_WireOne N) gs_veillaw10_WireOne 1 100 (is3_veillaw10_WireOne N) Try.f32) (.one (.lit (.ptr 11 [] 53))) (.cons 9 (.lst .u8) (.one 11 (.agg (.cons (.lit (.bool true)) (.cons (.gpw 9 5) (.one (.int .i64))))))) (.int .u64) (.cons 9 (.lst .u8) (.one 11 (.agg (.cons (.lit (.bool true)) (.cons (.gpw 9 5) (.one (.int .i64))))))) 12 [9] (fun x => io_veillaw10_WireOne_p_wire_Reader_count N x.1 x.2) := by
  intro x; kernel_rfl
theorem io32_1_veillaw10_WireOne (N : Nat) : IoStep (inlOf Try.prog (cs_veillaw10_WireOne N) gs_veillaw10_WireOne 1 100 (is3_veillaw10_WireOne N) Try.f32) (.one (.lit (.ptr 345 [] 53))) (.cons 343 (.lst .u8) (.one 345 (.agg (.cons (.lit (.bool true)) (.cons (.gpw 343 5) (.one (.int .i64))))))) (.int .u64) (.cons 343 (.lst .u8) (.one 345 (.agg (.cons (.lit (.bool true)) (.cons (.gpw 343 5) (.one (.int .i64))))))) 346 [343] (fun x => io_veillaw10_WireOne_p_wire_Reader_count N x.1 x.2) := by
  intro x; kernel_rfl
theorem io32_2_veillaw10_WireOne (N : Nat) : IoStep (inlOf Try.prog (cs_veillaw10_WireOne N) gs_veillaw10_WireOne 1 100 (is3_veillaw10_WireOne N) Try.f32) (.one (.lit (.ptr 15 [] 53))) (.cons 13 (.lst .u8) (.one 15 (.agg (.cons (.lit (.bool true)) (.cons (.gpw 13 5) (.one (.int .i64))))))) (.int .u64) (.cons 13 (.lst .u8) (.one 15 (.agg (.cons (.lit (.bool true)) (.cons (.gpw 13 5) (.one (.int .i64))))))) 16 [13] (fun x => io_veillaw10_WireOne_p_wire_Reader_count N x.1 x.2) := by
  intro x; kernel_rfl
theorem io32_3_veillaw10_WireOne (N : Nat) : IoStep (inlOf Try.prog (cs_veillaw10_WireOne N) gs_veillaw10_WireOne 1 100 (is3_veillaw10_WireOne N) Try.f32) (.one (.lit (.ptr 244 [] 53))) (.cons 242 (.lst .u8) (.one 244 (.agg (.cons (.lit (.bool true)) (.cons (.gpw 242 5) (.one (.int .i64))))))) (.int .u64) (.cons 242 (.lst .u8) (.one 244 (.agg (.cons (.lit (.bool true)) (.cons (.gpw 242 5) (.one (.int .i64))))))) 245 [242] (fun x => io_veillaw10_WireOne_p_wire_Reader_count N x.1 x.2) := by
  intro x; kernel_rfl
theorem io32_4_veillaw10_WireOne (N : Nat) : IoStep (inlOf Try.prog (cs_veillaw10_WireOne N) gs_veillaw10_WireOne 1 100 (is3_veillaw10_WireOne N) Try.f32) (.one (.lit (.ptr 340 [] 53))) (.cons 338 (.lst .u8) (.one 340 (.agg (.cons (.lit (.bool true)) (.cons (.gpw 338 5) (.one (.int .i64))))))) (.int .u64) (.cons 338 (.lst .u8) (.one 340 (.agg (.cons (.lit (.bool true)) (.cons (.gpw 338 5) (.one (.int .i64))))))) 341 [338] (fun x => io_veillaw10_WireOne_p_wire_Reader_count N x.1 x.2) := by
  intro x; kernel_rfl
theorem io32_5_veillaw10_WireOne (N : Nat) : IoStep (inlOf Try.prog (cs_veillaw10_WireOne N) gs_veillaw10_WireOne 1 100 (is3_veillaw10_WireOne N) Try.f32) (.one (.lit (.ptr 299 [] 53))) (.cons 297 (.lst .u8) (.one 299 (.agg (.cons (.lit (.bool true)) (.cons (.gpw 297 5) (.one (.int .i64))))))) (.int .u64) (.cons 297 (.lst .u8) (.one 299 (.agg (.cons (.lit (.bool true)) (.cons (.gpw 297 5) (.one (.int .i64))))))) 300 [297] (fun x => io_veillaw10_WireOne_p_wire_Reader_count N x.1 x.2) := by
  intro x; kernel_rfl
theorem io32_6_veillaw10_WireOne (N : Nat) : IoStep (inlOf Try.prog (cs_veillaw10_WireOne N) gs_veillaw10_WireOne 1 100 (is3_veillaw10_WireOne N) Try.f32) (.one (.lit (.ptr 165 [] 53))) (.cons 163 (.lst .u8) (.one 165 (.agg (.cons (.lit (.bool true)) (.cons (.gpw 163 5) (.one (.int .i64))))))) (.int .u64) (.cons 163 (.lst .u8) (.one 165 (.agg (.cons (.lit (.bool true)) (.cons (.gpw 163 5) (.one (.int .i64))))))) 166 [163] (fun x => io_veillaw10_WireOne_p_wire_Reader_count N x.1 x.2) := by
  intro x; kernel_rfl
theorem io32_7_veillaw10_WireOne (N : Nat) : IoStep (inlOf Try.prog (cs_veillaw10_WireOne N) gs_veillaw10_WireOne 1 100 (is3_veillaw10_WireOne N) Try.f32) (.one (.lit (.ptr 435 [] 53))) (.cons 433 (.lst .u8) (.one 435 (.agg (.cons (.lit (.bool true)) (.cons (.gpw 433 5) (.one (.int .i64))))))) (.int .u64) (.cons 433 (.lst .u8) (.one 435 (.agg (.cons (.lit (.bool true)) (.cons (.gpw 433 5) (.one (.int .i64))))))) 436 [433] (fun x => io_veillaw10_WireOne_p_wire_Reader_count N x.1 x.2) := by
  intro x; kernel_rfl
theorem io32_8_veillaw10_WireOne (N : Nat) : IoStep (inlOf Try.prog (cs_veillaw10_WireOne N) gs_veillaw10_WireOne 1 100 (is3_veillaw10_WireOne N) Try.f32) (.one (.lit (.ptr 430 [] 53))) (.cons 428 (.lst .u8) (.one 430 (.agg (.cons (.lit (.bool true)) (.cons (.gpw 428 5) (.one (.int .i64))))))) (.int .u64) (.cons 428 (.lst .u8) (.one 430 (.agg (.cons (.lit (.bool true)) (.cons (.gpw 428 5) (.one (.int .i64))))))) 431 [428] (fun x => io_veillaw10_WireOne_p_wire_Reader_count N x.1 x.2) := by
  intro x; kernel_rfl
theorem io32_9_veillaw10_WireOne (N : Nat) : IoStep (inlOf Try.prog (cs_veillaw10_WireOne N) gs_veillaw10_WireOne 1 100 (is3_veillaw10_WireOne N) Try.f32) (.one (.lit (.ptr 379 [] 53))) (.cons 377 (.lst .u8) (.one 379 (.agg (.cons (.lit (.bool true)) (.cons (.gpw 377 5) (.one (.int .i64))))))) (.int .u64) (.cons 377 (.lst .u8) (.one 379 (.agg (.cons (.lit (.bool true)) (.cons (.gpw 377 5) (.one (.int .i64))))))) 380 [377] (fun x => io_veillaw10_WireOne_p_wire_Reader_count N x.1 x.2) := by
  intro x; kernel_rfl
theorem io32_10_veillaw10_WireOne (N : Nat) : IoStep (inlOf Try.prog (cs_veillaw10_WireOne N) gs_veillaw10_WireOne 1 100 (is3_veillaw10_WireOne N) Try.f32) (.one (.lit (.ptr 193 [] 53))) (.cons 191 (.lst .u8) (.one 193 (.agg (.cons (.lit (.bool true)) (.cons (.gpw 191 5) (.one (.int .i64))))))) (.int .u64) (.cons 191 (.lst .u8) (.one 193 (.agg (.cons (.lit (.bool true)) (.cons (.gpw 191 5) (.one (.int .i64))))))) 194 [191] (fun x => io_veillaw10_WireOne_p_wire_Reader_count N x.1 x.2) := by
  intro x; kernel_rfl
theorem io32_11_veillaw10_WireOne (N : Nat) : IoStep (inlOf Try.prog (cs_veillaw10_WireOne N) gs_veillaw10_WireOne 1 100 (is3_veillaw10_WireOne N) Try.f32) (.one (.lit (.ptr 289 [] 53))) (.cons 287 (.lst .u8) (.one 289 (.agg (.cons (.lit (.bool true)) (.cons (.gpw 287 5) (.one (.int .i64))))))) (.int .u64) (.cons 287 (.lst .u8) (.one 289 (.agg (.cons (.lit (.bool true)) (.cons (.gpw 287 5) (.one (.int .i64))))))) 290 [287] (fun x => io_veillaw10_WireOne_p_wire_Reader_count N x.1 x.2) := by
  intro x; kernel_rfl
theorem io32_12_veillaw10_WireOne (N : Nat) : IoStep (inlOf Try.prog (cs_veillaw10_WireOne N) gs_veillaw10_WireOne 1 100 (is3_veillaw10_WireOne N) Try.f32) (.one (.lit (.ptr 248 [] 53))) (.cons 246 (.lst .u8) (.one 248 (.agg (.cons (.lit (.bool true)) (.cons (.gpw 246 5) (.one (.int .i64))))))) (.int .u64) (.cons 246 (.lst .u8) (.one 248 (.agg (.cons (.lit (.bool true)) (.cons (.gpw 246 5) (.one (.int .i64))))))) 249 [246] (fun x => io_veillaw10_WireOne_p_wire_Reader_count N x.1 x.2) := by
  intro x; kernel_rfl
noncomputable abbrev is4_veillaw10_WireOne (N : Nat) : List (FuncId × Inl) := ((32, (Inl.ioOr (.one (.lit (.ptr 248 [] 53))) (.cons 246 (.lst .u8) (.one 248 (.agg (.cons (.lit (.bool true)) (.cons (.gpw 246 5) (.one (.int .i64))))))) (.int .u64) (.cons 246 (.lst .u8) (.one 248 (.agg (.cons (.lit (.bool true)) (.cons (.gpw 246 5) (.one (.int .i64))))))) 249 [246] (fun x => io_veillaw10_WireOne_p_wire_Reader_count N x.1 x.2) (Inl.ioOr (.one (.lit (.ptr 289 [] 53))) (.cons 287 (.lst .u8) (.one 289 (.agg (.cons (.lit (.bool true)) (.cons (.gpw 287 5) (.one (.int .i64))))))) (.int .u64) (.cons 287 (.lst .u8) (.one 289 (.agg (.cons (.lit (.bool true)) (.cons (.gpw 287 5) (.one (.int .i64))))))) 290 [287] (fun x => io_veillaw10_WireOne_p_wire_Reader_count N x.1 x.2) (Inl.ioOr (.one (.lit (.ptr 193 [] 53))) (.cons 191 (.lst .u8) (.one 193 (.agg (.cons (.lit (.bool true)) (.cons (.gpw 191 5) (.one (.int .i64))))))) (.int .u64) (.cons 191 (.lst .u8) (.one 193 (.agg (.cons (.lit (.bool true)) (.cons (.gpw 191 5) (.one (.int .i64))))))) 194 [191] (fun x => io_veillaw10_WireOne_p_wire_Reader_count N x.1 x.2) (Inl.ioOr (.one (.lit (.ptr 379 [] 53))) (.cons 377 (.lst .u8) (.one 379 (.agg (.cons (.lit (.bool true)) (.cons (.gpw 377 5) (.one (.int .i64))))))) (.int .u64) (.cons 377 (.lst .u8) (.one 379 (.agg (.cons (.lit (.bool true)) (.cons (.gpw 377 5) (.one (.int .i64))))))) 380 [377] (fun x => io_veillaw10_WireOne_p_wire_Reader_count N x.1 x.2) (Inl.ioOr (.one (.lit (.ptr 430 [] 53))) (.cons 428 (.lst .u8) (.one 430 (.agg (.cons (.lit (.bool true)) (.cons (.gpw 428 5) (.one (.int .i64))))))) (.int .u64) (.cons 428 (.lst .u8) (.one 430 (.agg (.cons (.lit (.bool true)) (.cons (.gpw 428 5) (.one (.int .i64))))))) 431 [428] (fun x => io_veillaw10_WireOne_p_wire_Reader_count N x.1 x.2) (Inl.ioOr (.one (.lit (.ptr 435 [] 53))) (.cons 433 (.lst .u8) (.one 435 (.agg (.cons (.lit (.bool true)) (.cons (.gpw 433 5) (.one (.int .i64))))))) (.int .u64) (.cons 433 (.lst .u8) (.one 435 (.agg (.cons (.lit (.bool true)) (.cons (.gpw 433 5) (.one (.int .i64))))))) 436 [433] (fun x => io_veillaw10_WireOne_p_wire_Reader_count N x.1 x.2) (Inl.ioOr (.one (.lit (.ptr 165 [] 53))) (.cons 163 (.lst .u8) (.one 165 (.agg (.cons (.lit (.bool true)) (.cons (.gpw 163 5) (.one (.int .i64))))))) (.int .u64) (.cons 163 (.lst .u8) (.one 165 (.agg (.cons (.lit (.bool true)) (.cons (.gpw 163 5) (.one (.int .i64))))))) 166 [163] (fun x => io_veillaw10_WireOne_p_wire_Reader_count N x.1 x.2) (Inl.ioOr (.one (.lit (.ptr 299 [] 53))) (.cons 297 (.lst .u8) (.one 299 (.agg (.cons (.lit (.bool true)) (.cons (.gpw 297 5) (.one (.int .i64))))))) (.int .u64) (.cons 297 (.lst .u8) (.one 299 (.agg (.cons (.lit (.bool true)) (.cons (.gpw 297 5) (.one (.int .i64))))))) 300 [297] (fun x => io_veillaw10_WireOne_p_wire_Reader_count N x.1 x.2) (Inl.ioOr (.one (.lit (.ptr 340 [] 53))) (.cons 338 (.lst .u8) (.one 340 (.agg (.cons (.lit (.bool true)) (.cons (.gpw 338 5) (.one (.int .i64))))))) (.int .u64) (.cons 338 (.lst .u8) (.one 340 (.agg (.cons (.lit (.bool true)) (.cons (.gpw 338 5) (.one (.int .i64))))))) 341 [338] (fun x => io_veillaw10_WireOne_p_wire_Reader_count N x.1 x.2) (Inl.ioOr (.one (.lit (.ptr 244 [] 53))) (.cons 242 (.lst .u8) (.one 244 (.agg (.cons (.lit (.bool true)) (.cons (.gpw 242 5) (.one (.int .i64))))))) (.int .u64) (.cons 242 (.lst .u8) (.one 244 (.agg (.cons (.lit (.bool true)) (.cons (.gpw 242 5) (.one (.int .i64))))))) 245 [242] (fun x => io_veillaw10_WireOne_p_wire_Reader_count N x.1 x.2) (Inl.ioOr (.one (.lit (.ptr 15 [] 53))) (.cons 13 (.lst .u8) (.one 15 (.agg (.cons (.lit (.bool true)) (.cons (.gpw 13 5) (.one (.int .i64))))))) (.int .u64) (.cons 13 (.lst .u8) (.one 15 (.agg (.cons (.lit (.bool true)) (.cons (.gpw 13 5) (.one (.int .i64))))))) 16 [13] (fun x => io_veillaw10_WireOne_p_wire_Reader_count N x.1 x.2) (Inl.ioOr (.one (.lit (.ptr 345 [] 53))) (.cons 343 (.lst .u8) (.one 345 (.agg (.cons (.lit (.bool true)) (.cons (.gpw 343 5) (.one (.int .i64))))))) (.int .u64) (.cons 343 (.lst .u8) (.one 345 (.agg (.cons (.lit (.bool true)) (.cons (.gpw 343 5) (.one (.int .i64))))))) 346 [343] (fun x => io_veillaw10_WireOne_p_wire_Reader_count N x.1 x.2) (Inl.ioOr (.one (.lit (.ptr 11 [] 53))) (.cons 9 (.lst .u8) (.one 11 (.agg (.cons (.lit (.bool true)) (.cons (.gpw 9 5) (.one (.int .i64))))))) (.int .u64) (.cons 9 (.lst .u8) (.one 11 (.agg (.cons (.lit (.bool true)) (.cons (.gpw 9 5) (.one (.int .i64))))))) 12 [9] (fun x => io_veillaw10_WireOne_p_wire_Reader_count N x.1 x.2) (inlOf Try.prog (cs_veillaw10_WireOne N) gs_veillaw10_WireOne 1 100 (is3_veillaw10_WireOne N) Try.f32))))))))))))))) :: (is3_veillaw10_WireOne N))
theorem isok4_veillaw10_WireOne {w0 : World} (N : Nat) (hcs : ∀ x ∈ cs_veillaw10_WireOne N, SoundAt Try.prog w0 x.1 x.2) : AllOK Try.prog w0 gs_veillaw10_WireOne 1 (is4_veillaw10_WireOne N) := allok_cons (one_io (one_of hcs (isok3_veillaw10_WireOne N hcs) Try.func32 (by kernel_rfl) (by kernel_rfl)) (one_io (one_of hcs (isok3_veillaw10_WireOne N hcs) Try.func32 (by kernel_rfl) (by kernel_rfl)) (one_io (one_of hcs (isok3_veillaw10_WireOne N hcs) Try.func32 (by kernel_rfl) (by kernel_rfl)) (one_io (one_of hcs (isok3_veillaw10_WireOne N hcs) Try.func32 (by kernel_rfl) (by kernel_rfl)) (one_io (one_of hcs (isok3_veillaw10_WireOne N hcs) Try.func32 (by kernel_rfl) (by kernel_rfl)) (one_io (one_of hcs (isok3_veillaw10_WireOne N hcs) Try.func32 (by kernel_rfl) (by kernel_rfl)) (one_io (one_of hcs (isok3_veillaw10_WireOne N hcs) Try.func32 (by kernel_rfl) (by kernel_rfl)) (one_io (one_of hcs (isok3_veillaw10_WireOne N hcs) Try.func32 (by kernel_rfl) (by kernel_rfl)) (one_io (one_of hcs (isok3_veillaw10_WireOne N hcs) Try.func32 (by kernel_rfl) (by kernel_rfl)) (one_io (one_of hcs (isok3_veillaw10_WireOne N hcs) Try.func32 (by kernel_rfl) (by kernel_rfl)) (one_io (one_of hcs (isok3_veillaw10_WireOne N hcs) Try.func32 (by kernel_rfl) (by kernel_rfl)) (one_io (one_of hcs (isok3_veillaw10_WireOne N hcs) Try.func32 (by kernel_rfl) (by kernel_rfl)) (one_io (one_of hcs (isok3_veillaw10_WireOne N hcs) Try.func32 (by kernel_rfl) (by kernel_rfl)) (one_of hcs (isok3_veillaw10_WireOne N hcs) Try.func32 (by kernel_rfl) (by kernel_rfl)) (io32_0_veillaw10_WireOne N) (by kernel_rfl) (fun _ => rfl)) (io32_1_veillaw10_WireOne N) (by kernel_rfl) (fun _ => rfl)) (io32_2_veillaw10_WireOne N) (by kernel_rfl) (fun _ => rfl)) (io32_3_veillaw10_WireOne N) (by kernel_rfl) (fun _ => rfl)) (io32_4_veillaw10_WireOne N) (by kernel_rfl) (fun _ => rfl)) (io32_5_veillaw10_WireOne N) (by kernel_rfl) (fun _ => rfl)) (io32_6_veillaw10_WireOne N) (by kernel_rfl) (fun _ => rfl)) (io32_7_veillaw10_WireOne N) (by kernel_rfl) (fun _ => rfl)) (io32_8_veillaw10_WireOne N) (by kernel_rfl) (fun _ => rfl)) (io32_9_veillaw10_WireOne N) (by kernel_rfl) (fun _ => rfl)) (io32_10_veillaw10_WireOne N) (by kernel_rfl) (fun _ => rfl)) (io32_11_veillaw10_WireOne N) (by kernel_rfl) (fun _ => rfl)) (io32_12_veillaw10_WireOne N) (by kernel_rfl) (fun _ => rfl)) (isok3_veillaw10_WireOne N hcs)
noncomputable abbrev is5_veillaw10_WireOne (N : Nat) : List (FuncId × Inl) := ((33, (inlOf Try.prog (cs_veillaw10_WireOne N) gs_veillaw10_WireOne 1 100 (is4_veillaw10_WireOne N) Try.f33)) :: (is4_veillaw10_WireOne N))
theorem isok5_veillaw10_WireOne {w0 : World} (N : Nat) (hcs : ∀ x ∈ cs_veillaw10_WireOne N, SoundAt Try.prog w0 x.1 x.2) : AllOK Try.prog w0 gs_veillaw10_WireOne 1 (is5_veillaw10_WireOne N) := allok_cons (one_of hcs (isok4_veillaw10_WireOne N hcs) Try.func33 (by kernel_rfl) (by kernel_rfl)) (isok4_veillaw10_WireOne N hcs)
noncomputable abbrev is6_veillaw10_WireOne (N : Nat) : List (FuncId × Inl) := ((22, (inlOf Try.prog (cs_veillaw10_WireOne N) gs_veillaw10_WireOne 1 100 (is5_veillaw10_WireOne N) Try.f22)) :: (is5_veillaw10_WireOne N))
theorem isok6_veillaw10_WireOne {w0 : World} (N : Nat) (hcs : ∀ x ∈ cs_veillaw10_WireOne N, SoundAt Try.prog w0 x.1 x.2) : AllOK Try.prog w0 gs_veillaw10_WireOne 1 (is6_veillaw10_WireOne N) := allok_cons (one_of hcs (isok5_veillaw10_WireOne N hcs) Try.func22 (by kernel_rfl) (by kernel_rfl)) (isok5_veillaw10_WireOne N hcs)
noncomputable abbrev is7_veillaw10_WireOne (N : Nat) : List (FuncId × Inl) := ((23, (inlOf Try.prog (cs_veillaw10_WireOne N) gs_veillaw10_WireOne 1 100 (is6_veillaw10_WireOne N) Try.f23)) :: (is6_veillaw10_WireOne N))
theorem isok7_veillaw10_WireOne {w0 : World} (N : Nat) (hcs : ∀ x ∈ cs_veillaw10_WireOne N, SoundAt Try.prog w0 x.1 x.2) : AllOK Try.prog w0 gs_veillaw10_WireOne 1 (is7_veillaw10_WireOne N) := allok_cons (one_of hcs (isok6_veillaw10_WireOne N hcs) Try.func23 (by kernel_rfl) (by kernel_rfl)) (isok6_veillaw10_WireOne N hcs)
noncomputable abbrev is8_veillaw10_WireOne (N : Nat) : List (FuncId × Inl) := ((24, (inlOf Try.prog (cs_veillaw10_WireOne N) gs_veillaw10_WireOne 1 100 (is7_veillaw10_WireOne N) Try.f24)) :: (is7_veillaw10_WireOne N))
theorem isok8_veillaw10_WireOne {w0 : World} (N : Nat) (hcs : ∀ x ∈ cs_veillaw10_WireOne N, SoundAt Try.prog w0 x.1 x.2) : AllOK Try.prog w0 gs_veillaw10_WireOne 1 (is8_veillaw10_WireOne N) := allok_cons (one_of hcs (isok7_veillaw10_WireOne N hcs) Try.func24 (by kernel_rfl) (by kernel_rfl)) (isok7_veillaw10_WireOne N hcs)
noncomputable abbrev is9_veillaw10_WireOne (N : Nat) : List (FuncId × Inl) := ((25, (inlOf Try.prog (cs_veillaw10_WireOne N) gs_veillaw10_WireOne 1 100 (is8_veillaw10_WireOne N) Try.f25)) :: (is8_veillaw10_WireOne N))
theorem isok9_veillaw10_WireOne {w0 : World} (N : Nat) (hcs : ∀ x ∈ cs_veillaw10_WireOne N, SoundAt Try.prog w0 x.1 x.2) : AllOK Try.prog w0 gs_veillaw10_WireOne 1 (is9_veillaw10_WireOne N) := allok_cons (one_of hcs (isok8_veillaw10_WireOne N hcs) Try.func25 (by kernel_rfl) (by kernel_rfl)) (isok8_veillaw10_WireOne N hcs)
noncomputable abbrev is_veillaw10_WireOne (N : Nat) : List (FuncId × Inl) := (is9_veillaw10_WireOne N)
theorem isok_veillaw10_WireOne {w0 : World} (N : Nat) (hcs : ∀ x ∈ cs_veillaw10_WireOne N, SoundAt Try.prog w0 x.1 x.2) : AllOK Try.prog w0 gs_veillaw10_WireOne 1 (is_veillaw10_WireOne N) := (isok9_veillaw10_WireOne N hcs)
def veillaw10_WireOne_l0_H : Fm ((Nat × Unit × Int)) ((Nat × List Int)) := ⟨(.cons 0 (.slw 0 5) (.cons 2 (.lit (.bool false)) (.one 6 (.int .i64)))), (.one 0 (.lst .u8))⟩
def veillaw10_WireOne_l0_O : Fm (Nat) ((Nat × List Int)) := ⟨(.one 0 (.slw 0 5)), (.one 0 (.lst .u8))⟩
def veillaw10_WireOne_l0_T : Fm (Unit) (Unit) := ⟨(.one 2 (.lit (.bool false))), .nil⟩
noncomputable def ls_veillaw10_WireOne (N : Nat) : List (Nat × Lf) := [(0, loopCt veillaw10_WireOne_l0_H veillaw10_WireOne_l0_O veillaw10_WireOne_l0_T 5 (veillaw10_WireOne_l0 N) N)]
theorem veillaw10_WireOne_l0_step (N : Nat) : StepIs Try.prog (cxIn Try.f7 (cs_veillaw10_WireOne N) gs_veillaw10_WireOne 1 (is_veillaw10_WireOne N)) (ls_veillaw10_WireOne N) Try.f7 0 5 veillaw10_WireOne_l0_H veillaw10_WireOne_l0_O veillaw10_WireOne_l0_T (veillaw10_WireOne_l0 N) := by
  intro v; kernel_rfl
theorem r_veillaw10_WireOne (N : Nat) : RunIs Try.prog (cs_veillaw10_WireOne N) gs_veillaw10_WireOne 1 (ls_veillaw10_WireOne N) Try.f7 A_veillaw10_WireOne B_veillaw10_WireOne (fun x => veillaw10_WireOne N x) (fun g => lkI g (is_veillaw10_WireOne N)) := by
  intro x; kernel_rfl
theorem s_veillaw10_WireOne {w0 : World} (N : Nat)  (hcs : ∀ x ∈ cs_veillaw10_WireOne N, SoundAt Try.prog w0 x.1 x.2) : SoundAt Try.prog w0 7 (ct_veillaw10_WireOne N) := by
  have L0 : ∀ w : Base, w.g = w0 → LoopOK Try.prog (cxIn Try.f7 (cs_veillaw10_WireOne N) gs_veillaw10_WireOne 1 (is_veillaw10_WireOne N)) w 0 (.loop (loopBody Try.f7 0)) (loopCt veillaw10_WireOne_l0_H veillaw10_WireOne_l0_O veillaw10_WireOne_l0_T 5 (veillaw10_WireOne_l0 N) N) :=
    loop_printedO hcs (isok_veillaw10_WireOne N hcs) (ls := ls_veillaw10_WireOne N) (n := 100) (by kernel_rfl) (veillaw10_WireOne_l0_step N) N fun w hw => loopsOK_list (lp_no (by kernel_rfl) lp_nil)
  exact fn_printedO hcs (glob_nil _ _) (isok_veillaw10_WireOne N hcs) Try.func7 (by kernel_rfl) (by kernel_rfl) (S := 1) (fun w hw => loopsOK_list (lp_yes (L0 w hw) (by kernel_rfl) lp_nil)) (fun _ => rfl) (r_veillaw10_WireOne N)
theorem k_veillaw10_WireOne {w0 : World} (N : Nat)  : SoundAt Try.prog w0 7 (ct_veillaw10_WireOne N) :=
  s_veillaw10_WireOne N (cs_cons (k_veillaw10_same) (cs_cons (k_wire_AppendNumber_nil N) (cs_cons (k_wire_AppendBytes_nil N) (cs_cons (k_veillaw10_live N) (cs_cons (k_slices_Clone_of_byte_byte) cs_nil)))))

end Go.Vx
