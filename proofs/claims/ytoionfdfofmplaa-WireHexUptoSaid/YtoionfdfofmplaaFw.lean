import Derived.Test.YtoionfdfofmplaaFp
import Derived.Test.YtoionfdfofmplaaProg
set_option autoImplicit false
set_option linter.unusedVariables false
set_option linter.unusedSimpArgs false
namespace Go.Vx
open Go Go.Proofs

def ct_bits_Add64 : Ct := fct (.cons (.int .u64) (.cons (.int .u64) (.one (.int .u64)))) (.tup (.cons (.int .u64) (.one (.int .u64)))) fun x => bits_Add64 x.1 x.2.1 x.2.2

abbrev A_veillaw10_room : Ag (((Nat × List Int) × Unit)) := (.one (.tup (.cons (.lst .u8) (.one (.lit (.clo 5 []))))))
abbrev B_veillaw10_room : Pt (((Nat × List Int) × Unit)) := (.tup (.cons (.lst .u8) (.one (.lit (.clo 5 [])))))
def ct_veillaw10_room : Ct := fct A_veillaw10_room B_veillaw10_room fun x => veillaw10_room x
def cs_veillaw10_room : List (FuncId × Ct) := []
def gs_veillaw10_room : List Gv := []
noncomputable def ls_veillaw10_room : List (Nat × Lf) := []
theorem r_veillaw10_room : RunIs Try.prog (cs_veillaw10_room) gs_veillaw10_room 1 (ls_veillaw10_room) Try.f8 A_veillaw10_room B_veillaw10_room (fun x => veillaw10_room x) := by
  intro x; kernel_rfl
theorem s_veillaw10_room {w0 : World}  (hcs : ∀ x ∈ cs_veillaw10_room, SoundAt Try.prog w0 x.1 x.2) : SoundAt Try.prog w0 8 ct_veillaw10_room := by
  exact fn_printed hcs (glob_nil _ _) Try.func8 (by kernel_rfl) (by kernel_rfl) (S := 1) (fun w _ => loopsOK_nil _) (fun _ => rfl) (r_veillaw10_room)
theorem k_veillaw10_room {w0 : World}  : SoundAt Try.prog w0 8 ct_veillaw10_room :=
  s_veillaw10_room cs_nil

abbrev A_veillaw10_same : Ag ((((Nat × List Int) × Unit) × ((Nat × List Int) × Unit))) := (.cons (.tup (.cons (.lst .u8) (.one (.lit (.clo 5 []))))) (.one (.tup (.cons (.lst .u8) (.one (.lit (.clo 5 [])))))))
abbrev B_veillaw10_same : Pt (Bool) := .bool
def ct_veillaw10_same : Ct := tct A_veillaw10_same B_veillaw10_same fun x => veillaw10_same x.1 x.2
def cs_veillaw10_same : List (FuncId × Ct) := []
def gs_veillaw10_same : List Gv := []
noncomputable def ls_veillaw10_same : List (Nat × Lf) := []
theorem r_veillaw10_same : RunIs Try.prog (cs_veillaw10_same) gs_veillaw10_same 2 (ls_veillaw10_same) Try.f14 A_veillaw10_same B_veillaw10_same (fun x => some (veillaw10_same x.1 x.2)) := by
  intro x; kernel_rfl
theorem s_veillaw10_same {w0 : World}  (hcs : ∀ x ∈ cs_veillaw10_same, SoundAt Try.prog w0 x.1 x.2) : SoundAt Try.prog w0 14 ct_veillaw10_same := by
  exact sound_tct (fn_printed hcs (glob_nil _ _) Try.func14 (by kernel_rfl) (by kernel_rfl) (S := 2) (fun w _ => loopsOK_nil _) (fun _ => rfl) (r_veillaw10_same)) fun _ _ => rfl
theorem k_veillaw10_same {w0 : World}  : SoundAt Try.prog w0 14 ct_veillaw10_same :=
  s_veillaw10_same cs_nil

abbrev A_veillaw10_roomy : Ag ((((Nat × List Int) × Unit) × ((Nat × List Int) × Unit))) := (.cons (.tup (.cons (.lst .u8) (.one (.lit (.clo 5 []))))) (.one (.tup (.cons (.lst .u8) (.one (.lit (.clo 5 [])))))))
abbrev B_veillaw10_roomy : Pt (Bool) := .bool
def ct_veillaw10_roomy : Ct := fct A_veillaw10_roomy B_veillaw10_roomy fun x => veillaw10_roomy x.1 x.2
def cs_veillaw10_roomy : List (FuncId × Ct) := [(14, ct_veillaw10_same)]
def gs_veillaw10_roomy : List Gv := []
noncomputable def ls_veillaw10_roomy : List (Nat × Lf) := []
theorem r_veillaw10_roomy : RunIs Try.prog (cs_veillaw10_roomy) gs_veillaw10_roomy 2 (ls_veillaw10_roomy) Try.f11 A_veillaw10_roomy B_veillaw10_roomy (fun x => veillaw10_roomy x.1 x.2) := by
  intro x; kernel_rfl
theorem s_veillaw10_roomy {w0 : World}  (hcs : ∀ x ∈ cs_veillaw10_roomy, SoundAt Try.prog w0 x.1 x.2) : SoundAt Try.prog w0 11 ct_veillaw10_roomy := by
  exact fn_printed hcs (glob_nil _ _) Try.func11 (by kernel_rfl) (by kernel_rfl) (S := 2) (fun w _ => loopsOK_nil _) (fun _ => rfl) (r_veillaw10_roomy)
theorem k_veillaw10_roomy {w0 : World}  : SoundAt Try.prog w0 11 ct_veillaw10_roomy :=
  s_veillaw10_roomy (cs_cons (k_veillaw10_same) cs_nil)

abbrev A_wire_Hex : Ag (((Nat × List Int) × Unit)) := (.one (.tup (.cons (.lst .u8) (.one (.lit (.clo 5 []))))))
abbrev B_wire_Hex : Pt (ByteArray) := .str
def ct_wire_Hex (N : Nat) : Ct := fct A_wire_Hex B_wire_Hex fun x => wire_Hex N x
def cs_wire_Hex (N : Nat) : List (FuncId × Ct) := []
def gs_wire_Hex : List Gv := []
def wire_Hex_l0_H : Fm ((ByteArray × Nat × Nat × Int × Int)) (((Nat × List Int) × (Nat × List Int))) := ⟨(.cons 2 .str (.cons 3 (.gsw 5 5) (.cons 10 (.slw 0 5) (.cons 11 (.int .i64) (.one 12 (.int .i64)))))), (.cons 0 (.lst .u8) (.one 5 (.lst .u8)))⟩
def wire_Hex_l0_O : Fm (Nat) ((Nat × List Int)) := ⟨(.one 3 (.gsw 5 5)), (.one 5 (.lst .u8))⟩
def wire_Hex_l0_T : Fm (Unit) (Unit) := ⟨.nil, .nil⟩
noncomputable def ls_wire_Hex (N : Nat) : List (Nat × Lf) := [(0, loopCt wire_Hex_l0_H wire_Hex_l0_O wire_Hex_l0_T 10 (wire_Hex_l0 N) N)]
theorem wire_Hex_l0_step (N : Nat) : StepIs Try.prog (cxOf Try.f9 (cs_wire_Hex N) gs_wire_Hex 1) (ls_wire_Hex N) Try.f9 0 10 wire_Hex_l0_H wire_Hex_l0_O wire_Hex_l0_T (wire_Hex_l0 N) := by
  intro v; kernel_rfl
theorem r_wire_Hex (N : Nat) : RunIs Try.prog (cs_wire_Hex N) gs_wire_Hex 1 (ls_wire_Hex N) Try.f9 A_wire_Hex B_wire_Hex (fun x => wire_Hex N x) := by
  intro x; kernel_rfl
theorem s_wire_Hex {w0 : World} (N : Nat)  (hcs : ∀ x ∈ cs_wire_Hex N, SoundAt Try.prog w0 x.1 x.2) : SoundAt Try.prog w0 9 (ct_wire_Hex N) := by
  have L0 : ∀ w : Base, w.g = w0 → LoopOK Try.prog (cxOf Try.f9 (cs_wire_Hex N) gs_wire_Hex 1) w 0 (.loop (loopBody Try.f9 0)) (loopCt wire_Hex_l0_H wire_Hex_l0_O wire_Hex_l0_T 10 (wire_Hex_l0 N) N) :=
    loop_printed hcs (ls := ls_wire_Hex N) (n := 100) (by kernel_rfl) (wire_Hex_l0_step N) N fun w hw => loopsOK_list (lp_no (by kernel_rfl) lp_nil)
  exact fn_printed hcs (glob_nil _ _) Try.func9 (by kernel_rfl) (by kernel_rfl) (S := 1) (fun w hw => loopsOK_list (lp_yes (L0 w hw) (by kernel_rfl) lp_nil)) (fun _ => rfl) (r_wire_Hex N)
theorem k_wire_Hex {w0 : World} (N : Nat)  : SoundAt Try.prog w0 9 (ct_wire_Hex N) :=
  s_wire_Hex N cs_nil

abbrev A_veilref10_Hex : Ag (((Nat × List Int) × Unit)) := (.one (.tup (.cons (.lst .u8) (.one (.lit (.clo 5 []))))))
abbrev B_veilref10_Hex : Pt (ByteArray) := .str
def ct_veilref10_Hex (N : Nat) : Ct := fct A_veilref10_Hex B_veilref10_Hex fun x => veilref10_Hex N x
def cs_veilref10_Hex (N : Nat) : List (FuncId × Ct) := []
def gs_veilref10_Hex : List Gv := []
def veilref10_Hex_l0_H : Fm ((Nat × ByteArray × ByteArray × Int)) ((Nat × List Int)) := ⟨(.cons 0 (.slw 0 5) (.cons 2 .str (.cons 3 .str (.one 4 (.int .i64))))), (.one 0 (.lst .u8))⟩
def veilref10_Hex_l0_O : Fm (ByteArray) (Unit) := ⟨(.one 3 .str), .nil⟩
def veilref10_Hex_l0_T : Fm (Unit) (Unit) := ⟨.nil, .nil⟩
noncomputable def ls_veilref10_Hex (N : Nat) : List (Nat × Lf) := [(0, loopCt veilref10_Hex_l0_H veilref10_Hex_l0_O veilref10_Hex_l0_T 4 (veilref10_Hex_l0 N) N)]
theorem veilref10_Hex_l0_step (N : Nat) : StepIs Try.prog (cxOf Try.f10 (cs_veilref10_Hex N) gs_veilref10_Hex 1) (ls_veilref10_Hex N) Try.f10 0 4 veilref10_Hex_l0_H veilref10_Hex_l0_O veilref10_Hex_l0_T (veilref10_Hex_l0 N) := by
  intro v; kernel_rfl
theorem r_veilref10_Hex (N : Nat) : RunIs Try.prog (cs_veilref10_Hex N) gs_veilref10_Hex 1 (ls_veilref10_Hex N) Try.f10 A_veilref10_Hex B_veilref10_Hex (fun x => veilref10_Hex N x) := by
  intro x; kernel_rfl
theorem s_veilref10_Hex {w0 : World} (N : Nat)  (hcs : ∀ x ∈ cs_veilref10_Hex N, SoundAt Try.prog w0 x.1 x.2) : SoundAt Try.prog w0 10 (ct_veilref10_Hex N) := by
  have L0 : ∀ w : Base, w.g = w0 → LoopOK Try.prog (cxOf Try.f10 (cs_veilref10_Hex N) gs_veilref10_Hex 1) w 0 (.loop (loopBody Try.f10 0)) (loopCt veilref10_Hex_l0_H veilref10_Hex_l0_O veilref10_Hex_l0_T 4 (veilref10_Hex_l0 N) N) :=
    loop_printed hcs (ls := ls_veilref10_Hex N) (n := 100) (by kernel_rfl) (veilref10_Hex_l0_step N) N fun w hw => loopsOK_list (lp_no (by kernel_rfl) lp_nil)
  exact fn_printed hcs (glob_nil _ _) Try.func10 (by kernel_rfl) (by kernel_rfl) (S := 1) (fun w hw => loopsOK_list (lp_yes (L0 w hw) (by kernel_rfl) lp_nil)) (fun _ => rfl) (r_veilref10_Hex N)
theorem k_veilref10_Hex {w0 : World} (N : Nat)  : SoundAt Try.prog w0 10 (ct_veilref10_Hex N) :=
  s_veilref10_Hex N cs_nil

abbrev A_wire_digit : Ag (Int) := (.one (.int .i32))
abbrev B_wire_digit : Pt (Int) := (.int .u8)
def ct_wire_digit : Ct := tct A_wire_digit B_wire_digit fun x => wire_digit x
def cs_wire_digit : List (FuncId × Ct) := []
def gs_wire_digit : List Gv := []
noncomputable def ls_wire_digit : List (Nat × Lf) := []
theorem r_wire_digit : RunIs Try.prog (cs_wire_digit) gs_wire_digit 0 (ls_wire_digit) Try.f26 A_wire_digit B_wire_digit (fun x => wire_digit_o x) := by
  intro x; kernel_rfl
theorem s_wire_digit {w0 : World}  (hcs : ∀ x ∈ cs_wire_digit, SoundAt Try.prog w0 x.1 x.2) : SoundAt Try.prog w0 26 ct_wire_digit := by
  exact sound_tct (fn_printed hcs (glob_nil _ _) Try.func26 (by kernel_rfl) (by kernel_rfl) (S := 0) (fun w _ => loopsOK_nil _) (fun _ => rfl) (r_wire_digit)) fun _ _ => wire_digit_tot _
theorem k_wire_digit {w0 : World}  : SoundAt Try.prog w0 26 ct_wire_digit :=
  s_wire_digit cs_nil

abbrev A_wire_Unhex : Ag (ByteArray) := (.one .str)
abbrev B_wire_Unhex : Pt ((((Nat × List Int) × Unit) × Int)) := (.tup (.cons (.tup (.cons (.lst .u8) (.one (.lit (.clo 5 []))))) (.one (.int .i64))))
def ct_wire_Unhex (N : Nat) : Ct := fct A_wire_Unhex B_wire_Unhex fun x => wire_Unhex N x
def cs_wire_Unhex (N : Nat) : List (FuncId × Ct) := [(26, ct_wire_digit)]
def gs_wire_Unhex : List Gv := []
def wire_Unhex_l0_H : Fm ((Unit × Unit × Nat × Unit)) (((Nat × List Int) × (ByteArray × Nat))) := ⟨(.cons 2 (.lit .nils) (.cons 3 (.lit (.int .i64 0)) (.cons 4 (.gsw 9 5) (.one 17 (.lit (.itp 13)))))), (.cons 9 (.lst .u8) (.one 13 .itr))⟩
def wire_Unhex_l0_O : Fm (Nat) ((Nat × List Int)) := ⟨(.one 4 (.gsw 9 5)), (.one 9 (.lst .u8))⟩
def wire_Unhex_l0_T : Fm ((Unit × Unit)) (Unit) := ⟨(.cons 2 (.lit .nils) (.one 3 (.lit (.int .i64 104)))), .nil⟩
noncomputable def ls_wire_Unhex (N : Nat) : List (Nat × Lf) := [(0, loopCt wire_Unhex_l0_H wire_Unhex_l0_O wire_Unhex_l0_T 16 (wire_Unhex_l0 N) N)]
theorem wire_Unhex_l0_step (N : Nat) : StepIs Try.prog (cxOf Try.f12 (cs_wire_Unhex N) gs_wire_Unhex 0) (ls_wire_Unhex N) Try.f12 0 16 wire_Unhex_l0_H wire_Unhex_l0_O wire_Unhex_l0_T (wire_Unhex_l0 N) := by
  intro v; kernel_rfl
theorem r_wire_Unhex (N : Nat) : RunIs Try.prog (cs_wire_Unhex N) gs_wire_Unhex 0 (ls_wire_Unhex N) Try.f12 A_wire_Unhex B_wire_Unhex (fun x => wire_Unhex N x) := by
  intro x; kernel_rfl
theorem s_wire_Unhex {w0 : World} (N : Nat)  (hcs : ∀ x ∈ cs_wire_Unhex N, SoundAt Try.prog w0 x.1 x.2) : SoundAt Try.prog w0 12 (ct_wire_Unhex N) := by
  have L0 : ∀ w : Base, w.g = w0 → LoopOK Try.prog (cxOf Try.f12 (cs_wire_Unhex N) gs_wire_Unhex 0) w 0 (.loop (loopBody Try.f12 0)) (loopCt wire_Unhex_l0_H wire_Unhex_l0_O wire_Unhex_l0_T 16 (wire_Unhex_l0 N) N) :=
    loop_printed hcs (ls := ls_wire_Unhex N) (n := 100) (by kernel_rfl) (wire_Unhex_l0_step N) N fun w hw => loopsOK_list (lp_no (by kernel_rfl) lp_nil)
  exact fn_printed hcs (glob_nil _ _) Try.func12 (by kernel_rfl) (by kernel_rfl) (S := 0) (fun w hw => loopsOK_list (lp_yes (L0 w hw) (by kernel_rfl) lp_nil)) (fun _ => rfl) (r_wire_Unhex N)
theorem k_wire_Unhex {w0 : World} (N : Nat)  : SoundAt Try.prog w0 12 (ct_wire_Unhex N) :=
  s_wire_Unhex N (cs_cons (k_wire_digit) cs_nil)

abbrev A_veilref10_digit : Ag (Int) := (.one (.int .u8))
abbrev B_veilref10_digit : Pt (Int) := (.int .i64)
def ct_veilref10_digit : Ct := tct A_veilref10_digit B_veilref10_digit fun x => veilref10_digit x
def cs_veilref10_digit : List (FuncId × Ct) := []
def gs_veilref10_digit : List Gv := []
noncomputable def ls_veilref10_digit : List (Nat × Lf) := []
theorem r_veilref10_digit : RunIs Try.prog (cs_veilref10_digit) gs_veilref10_digit 0 (ls_veilref10_digit) Try.f27 A_veilref10_digit B_veilref10_digit (fun x => veilref10_digit_o x) := by
  intro x; kernel_rfl
theorem s_veilref10_digit {w0 : World}  (hcs : ∀ x ∈ cs_veilref10_digit, SoundAt Try.prog w0 x.1 x.2) : SoundAt Try.prog w0 27 ct_veilref10_digit := by
  exact sound_tct (fn_printed hcs (glob_nil _ _) Try.func27 (by kernel_rfl) (by kernel_rfl) (S := 0) (fun w _ => loopsOK_nil _) (fun _ => rfl) (r_veilref10_digit)) fun _ _ => veilref10_digit_tot _
theorem k_veilref10_digit {w0 : World}  : SoundAt Try.prog w0 27 ct_veilref10_digit :=
  s_veilref10_digit cs_nil

abbrev A_veilref10_Unhex : Ag (ByteArray) := (.one .str)
abbrev B_veilref10_Unhex : Pt ((((Nat × List Int) × Unit) × Int)) := (.tup (.cons (.tup (.cons (.lst .u8) (.one (.lit (.clo 5 []))))) (.one (.int .i64))))
def ct_veilref10_Unhex (N : Nat) : Ct := fct A_veilref10_Unhex B_veilref10_Unhex fun x => veilref10_Unhex N x
def cs_veilref10_Unhex (N : Nat) : List (FuncId × Ct) := [(27, ct_veilref10_digit)]
def gs_veilref10_Unhex : List Gv := []
def veilref10_Unhex_l0_H : Fm ((ByteArray × Unit × Unit × Nat × Int)) ((Nat × List Int)) := ⟨(.cons 0 .str (.cons 2 (.lit .nils) (.cons 3 (.lit (.int .i64 0)) (.cons 4 (.gsw 0 5) (.one 5 (.int .i64)))))), (.one 0 (.lst .u8))⟩
def veilref10_Unhex_l0_O : Fm (Nat) ((Nat × List Int)) := ⟨(.one 4 (.gsw 0 5)), (.one 0 (.lst .u8))⟩
def veilref10_Unhex_l0_T : Fm ((Unit × Unit)) (Unit) := ⟨(.cons 2 (.lit .nils) (.one 3 (.lit (.int .i64 104)))), .nil⟩
noncomputable def ls_veilref10_Unhex (N : Nat) : List (Nat × Lf) := [(0, loopCt veilref10_Unhex_l0_H veilref10_Unhex_l0_O veilref10_Unhex_l0_T 8 (veilref10_Unhex_l0 N) N)]
theorem veilref10_Unhex_l0_step (N : Nat) : StepIs Try.prog (cxOf Try.f13 (cs_veilref10_Unhex N) gs_veilref10_Unhex 0) (ls_veilref10_Unhex N) Try.f13 0 8 veilref10_Unhex_l0_H veilref10_Unhex_l0_O veilref10_Unhex_l0_T (veilref10_Unhex_l0 N) := by
  intro v; kernel_rfl
theorem r_veilref10_Unhex (N : Nat) : RunIs Try.prog (cs_veilref10_Unhex N) gs_veilref10_Unhex 0 (ls_veilref10_Unhex N) Try.f13 A_veilref10_Unhex B_veilref10_Unhex (fun x => veilref10_Unhex N x) := by
  intro x; kernel_rfl
theorem s_veilref10_Unhex {w0 : World} (N : Nat)  (hcs : ∀ x ∈ cs_veilref10_Unhex N, SoundAt Try.prog w0 x.1 x.2) : SoundAt Try.prog w0 13 (ct_veilref10_Unhex N) := by
  have L0 : ∀ w : Base, w.g = w0 → LoopOK Try.prog (cxOf Try.f13 (cs_veilref10_Unhex N) gs_veilref10_Unhex 0) w 0 (.loop (loopBody Try.f13 0)) (loopCt veilref10_Unhex_l0_H veilref10_Unhex_l0_O veilref10_Unhex_l0_T 8 (veilref10_Unhex_l0 N) N) :=
    loop_printed hcs (ls := ls_veilref10_Unhex N) (n := 100) (by kernel_rfl) (veilref10_Unhex_l0_step N) N fun w hw => loopsOK_list (lp_no (by kernel_rfl) lp_nil)
  exact fn_printed hcs (glob_nil _ _) Try.func13 (by kernel_rfl) (by kernel_rfl) (S := 0) (fun w hw => loopsOK_list (lp_yes (L0 w hw) (by kernel_rfl) lp_nil)) (fun _ => rfl) (r_veilref10_Unhex N)
theorem k_veilref10_Unhex {w0 : World} (N : Nat)  : SoundAt Try.prog w0 13 (ct_veilref10_Unhex N) :=
  s_veilref10_Unhex N (cs_cons (k_veilref10_digit) cs_nil)

abbrev A_veillaw10_WireHex : Ag ((((Nat × List Int) × Unit) × ByteArray)) := (.cons (.tup (.cons (.lst .u8) (.one (.lit (.clo 5 []))))) (.one .str))
abbrev B_veillaw10_WireHex : Pt (Bool) := .bool
def ct_veillaw10_WireHex (N : Nat) : Ct := fct A_veillaw10_WireHex B_veillaw10_WireHex fun x => veillaw10_WireHex N x.1 x.2
def cs_veillaw10_WireHex (N : Nat) : List (FuncId × Ct) := [(8, ct_veillaw10_room), (9, (ct_wire_Hex N)), (10, (ct_veilref10_Hex N)), (11, ct_veillaw10_roomy), (12, (ct_wire_Unhex N)), (13, (ct_veilref10_Unhex N)), (14, ct_veillaw10_same)]
def gs_veillaw10_WireHex : List Gv := []
noncomputable def ls_veillaw10_WireHex (N : Nat) : List (Nat × Lf) := []
theorem r_veillaw10_WireHex (N : Nat) : RunIs Try.prog (cs_veillaw10_WireHex N) gs_veillaw10_WireHex 1 (ls_veillaw10_WireHex N) Try.f3 A_veillaw10_WireHex B_veillaw10_WireHex (fun x => veillaw10_WireHex N x.1 x.2) := by
  intro x; kernel_rfl
theorem s_veillaw10_WireHex {w0 : World} (N : Nat)  (hcs : ∀ x ∈ cs_veillaw10_WireHex N, SoundAt Try.prog w0 x.1 x.2) : SoundAt Try.prog w0 3 (ct_veillaw10_WireHex N) := by
  exact fn_printed hcs (glob_nil _ _) Try.func3 (by kernel_rfl) (by kernel_rfl) (S := 1) (fun w _ => loopsOK_nil _) (fun _ => rfl) (r_veillaw10_WireHex N)
theorem k_veillaw10_WireHex {w0 : World} (N : Nat)  : SoundAt Try.prog w0 3 (ct_veillaw10_WireHex N) :=
  s_veillaw10_WireHex N (cs_cons (k_veillaw10_room) (cs_cons (k_wire_Hex N) (cs_cons (k_veilref10_Hex N) (cs_cons (k_veillaw10_roomy) (cs_cons (k_wire_Unhex N) (cs_cons (k_veilref10_Unhex N) (cs_cons (k_veillaw10_same) cs_nil)))))))

end Go.Vx
