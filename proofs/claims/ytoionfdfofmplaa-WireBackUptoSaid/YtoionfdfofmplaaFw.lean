import Derived.Test.YtoionfdfofmplaaFp
import Derived.Test.YtoionfdfofmplaaProg
import Derived.Test.YtoionfdfofmplaaVxU
import Derived.Test.YtoionfdfofmplaaVxR2
import Derived.Test.YtoionfdfofmplaaVxZ2
set_option autoImplicit false
set_option linter.unusedVariables false
set_option linter.unusedSimpArgs false
namespace Go.Vx
open Go Go.Proofs

abbrev A_wire_AppendNumber_nil : Ag ((Unit × Int)) := (.cons (.lit .nils) (.one (.int .u64)))
abbrev B_wire_AppendNumber_nil : Pt (((Nat × List Int) × Unit)) := (.tup (.cons (.lst .u8) (.one (.lit (.clo 5 [])))))
def ct_wire_AppendNumber_nil (N : Nat) : Ct := fct A_wire_AppendNumber_nil B_wire_AppendNumber_nil fun x => wire_AppendNumber_nil N x.1 x.2
def cs_wire_AppendNumber_nil (N : Nat) : List (FuncId × Ct) := []
def gs_wire_AppendNumber_nil : List Gv := []
noncomputable abbrev is0_wire_AppendNumber_nil (N : Nat) : List (FuncId × Inl) := ((36, inlOf Try.prog (cs_wire_AppendNumber_nil N) gs_wire_AppendNumber_nil 0 100 [] Try.f36) :: [])
theorem isok0_wire_AppendNumber_nil (N : Nat) : InlAll Try.prog (cs_wire_AppendNumber_nil N) gs_wire_AppendNumber_nil 0 100 (is0_wire_AppendNumber_nil N) := ⟨⟨Try.f36, Try.func36, by kernel_rfl, by kernel_rfl, rfl⟩, trivial⟩
noncomputable abbrev is1_wire_AppendNumber_nil (N : Nat) : List (FuncId × Inl) := ((28, inlOf Try.prog (cs_wire_AppendNumber_nil N) gs_wire_AppendNumber_nil 0 100 (is0_wire_AppendNumber_nil N) Try.f28) :: (is0_wire_AppendNumber_nil N))
theorem isok1_wire_AppendNumber_nil (N : Nat) : InlAll Try.prog (cs_wire_AppendNumber_nil N) gs_wire_AppendNumber_nil 0 100 (is1_wire_AppendNumber_nil N) := ⟨⟨Try.f28, Try.func28, by kernel_rfl, by kernel_rfl, rfl⟩, (isok0_wire_AppendNumber_nil N)⟩
noncomputable abbrev is_wire_AppendNumber_nil (N : Nat) : List (FuncId × Inl) := (is1_wire_AppendNumber_nil N)
theorem isok_wire_AppendNumber_nil (N : Nat) : InlAll Try.prog (cs_wire_AppendNumber_nil N) gs_wire_AppendNumber_nil 0 100 (is_wire_AppendNumber_nil N) := (isok1_wire_AppendNumber_nil N)
def wire_AppendNumber_nil_l0_H : Fm ((Int × Unit × Nat)) ((Nat × List Int)) := ⟨(.cons 1 (.int .u64) (.cons 4 (.lit .nils) (.one 5 (.gsw 0 5)))), (.one 0 (.lst .u8))⟩
def wire_AppendNumber_nil_l0_O : Fm ((Int × Nat)) ((Nat × List Int)) := ⟨(.cons 1 (.int .u64) (.one 5 (.gsw 0 5))), (.one 0 (.lst .u8))⟩
def wire_AppendNumber_nil_l0_T : Fm (Unit) (Unit) := ⟨.nil, .nil⟩
noncomputable def ls_wire_AppendNumber_nil (N : Nat) : List (Nat × Lf) := [(0, loopCt wire_AppendNumber_nil_l0_H wire_AppendNumber_nil_l0_O wire_AppendNumber_nil_l0_T 4 (wire_AppendNumber_nil_l0 N) N)]
theorem wire_AppendNumber_nil_l0_step (N : Nat) : StepIs Try.prog (cxIn Try.f15 (cs_wire_AppendNumber_nil N) gs_wire_AppendNumber_nil 0 (is_wire_AppendNumber_nil N)) (ls_wire_AppendNumber_nil N) Try.f15 0 4 wire_AppendNumber_nil_l0_H wire_AppendNumber_nil_l0_O wire_AppendNumber_nil_l0_T (wire_AppendNumber_nil_l0 N) := by
  intro v; kernel_rfl
theorem r_wire_AppendNumber_nil (N : Nat) : RunIs Try.prog (cs_wire_AppendNumber_nil N) gs_wire_AppendNumber_nil 0 (ls_wire_AppendNumber_nil N) Try.f15 A_wire_AppendNumber_nil B_wire_AppendNumber_nil (fun x => wire_AppendNumber_nil N x.1 x.2) (fun g => lkI g (is_wire_AppendNumber_nil N)) := by
  intro x; kernel_rfl
theorem s_wire_AppendNumber_nil {w0 : World} (N : Nat)  (hcs : ∀ x ∈ cs_wire_AppendNumber_nil N, SoundAt Try.prog w0 x.1 x.2) : SoundAt Try.prog w0 15 (ct_wire_AppendNumber_nil N) := by
  have L0 : ∀ w : Base, w.g = w0 → LoopOK Try.prog (cxIn Try.f15 (cs_wire_AppendNumber_nil N) gs_wire_AppendNumber_nil 0 (is_wire_AppendNumber_nil N)) w 0 (.loop (loopBody Try.f15 0)) (loopCt wire_AppendNumber_nil_l0_H wire_AppendNumber_nil_l0_O wire_AppendNumber_nil_l0_T 4 (wire_AppendNumber_nil_l0 N) N) :=
    loop_printedI hcs (isok_wire_AppendNumber_nil N) (ls := ls_wire_AppendNumber_nil N) (n := 100) (by kernel_rfl) (wire_AppendNumber_nil_l0_step N) N fun w hw => loopsOK_list (lp_no (by kernel_rfl) lp_nil)
  exact fn_printedI hcs (glob_nil _ _) (isok_wire_AppendNumber_nil N) Try.func15 (by kernel_rfl) (by kernel_rfl) (S := 0) (fun w hw => loopsOK_list (lp_yes (L0 w hw) (by kernel_rfl) lp_nil)) (fun _ => rfl) (r_wire_AppendNumber_nil N)
theorem k_wire_AppendNumber_nil {w0 : World} (N : Nat)  : SoundAt Try.prog w0 15 (ct_wire_AppendNumber_nil N) :=
  s_wire_AppendNumber_nil N cs_nil

abbrev A_wire_AppendNumber : Ag ((((Nat × List Int) × Unit) × Int)) := (.cons (.tup (.cons (.lst .u8) (.one (.lit (.clo 5 []))))) (.one (.int .u64)))
abbrev B_wire_AppendNumber : Pt (((Nat × List Int) × Unit)) := (.tup (.cons (.lst .u8) (.one (.lit (.clo 5 [])))))
def ct_wire_AppendNumber (N : Nat) : Ct := fct A_wire_AppendNumber B_wire_AppendNumber fun x => wire_AppendNumber N x.1 x.2
def cs_wire_AppendNumber (N : Nat) : List (FuncId × Ct) := []
def gs_wire_AppendNumber : List Gv := []
noncomputable abbrev is0_wire_AppendNumber (N : Nat) : List (FuncId × Inl) := ((36, inlOf Try.prog (cs_wire_AppendNumber N) gs_wire_AppendNumber 1 100 [] Try.f36) :: [])
theorem isok0_wire_AppendNumber (N : Nat) : InlAll Try.prog (cs_wire_AppendNumber N) gs_wire_AppendNumber 1 100 (is0_wire_AppendNumber N) := ⟨⟨Try.f36, Try.func36, by kernel_rfl, by kernel_rfl, rfl⟩, trivial⟩
noncomputable abbrev is1_wire_AppendNumber (N : Nat) : List (FuncId × Inl) := ((28, inlOf Try.prog (cs_wire_AppendNumber N) gs_wire_AppendNumber 1 100 (is0_wire_AppendNumber N) Try.f28) :: (is0_wire_AppendNumber N))
theorem isok1_wire_AppendNumber (N : Nat) : InlAll Try.prog (cs_wire_AppendNumber N) gs_wire_AppendNumber 1 100 (is1_wire_AppendNumber N) := ⟨⟨Try.f28, Try.func28, by kernel_rfl, by kernel_rfl, rfl⟩, (isok0_wire_AppendNumber N)⟩
noncomputable abbrev is_wire_AppendNumber (N : Nat) : List (FuncId × Inl) := (is1_wire_AppendNumber N)
theorem isok_wire_AppendNumber (N : Nat) : InlAll Try.prog (cs_wire_AppendNumber N) gs_wire_AppendNumber 1 100 (is_wire_AppendNumber N) := (isok1_wire_AppendNumber N)
def wire_AppendNumber_l0_H : Fm ((Int × Unit × Nat)) ((Nat × List Int)) := ⟨(.cons 1 (.int .u64) (.cons 4 (.lit .nils) (.one 5 (.gsw 1 5)))), (.one 1 (.lst .u8))⟩
def wire_AppendNumber_l0_O : Fm ((Int × Nat)) ((Nat × List Int)) := ⟨(.cons 1 (.int .u64) (.one 5 (.gsw 1 5))), (.one 1 (.lst .u8))⟩
def wire_AppendNumber_l0_T : Fm (Unit) (Unit) := ⟨.nil, .nil⟩
noncomputable def ls_wire_AppendNumber (N : Nat) : List (Nat × Lf) := [(0, loopCt wire_AppendNumber_l0_H wire_AppendNumber_l0_O wire_AppendNumber_l0_T 6 (wire_AppendNumber_l0 N) N)]
theorem wire_AppendNumber_l0_step (N : Nat) : StepIs Try.prog (cxIn Try.f15 (cs_wire_AppendNumber N) gs_wire_AppendNumber 1 (is_wire_AppendNumber N)) (ls_wire_AppendNumber N) Try.f15 0 6 wire_AppendNumber_l0_H wire_AppendNumber_l0_O wire_AppendNumber_l0_T (wire_AppendNumber_l0 N) := by
  intro v; kernel_rfl
theorem r_wire_AppendNumber (N : Nat) : RunIs Try.prog (cs_wire_AppendNumber N) gs_wire_AppendNumber 1 (ls_wire_AppendNumber N) Try.f15 A_wire_AppendNumber B_wire_AppendNumber (fun x => wire_AppendNumber N x.1 x.2) (fun g => lkI g (is_wire_AppendNumber N)) := by
  intro x; kernel_rfl
theorem s_wire_AppendNumber {w0 : World} (N : Nat)  (hcs : ∀ x ∈ cs_wire_AppendNumber N, SoundAt Try.prog w0 x.1 x.2) : SoundAt Try.prog w0 15 (ct_wire_AppendNumber N) := by
  have L0 : ∀ w : Base, w.g = w0 → LoopOK Try.prog (cxIn Try.f15 (cs_wire_AppendNumber N) gs_wire_AppendNumber 1 (is_wire_AppendNumber N)) w 0 (.loop (loopBody Try.f15 0)) (loopCt wire_AppendNumber_l0_H wire_AppendNumber_l0_O wire_AppendNumber_l0_T 6 (wire_AppendNumber_l0 N) N) :=
    loop_printedI hcs (isok_wire_AppendNumber N) (ls := ls_wire_AppendNumber N) (n := 100) (by kernel_rfl) (wire_AppendNumber_l0_step N) N fun w hw => loopsOK_list (lp_no (by kernel_rfl) lp_nil)
  exact fn_printedI hcs (glob_nil _ _) (isok_wire_AppendNumber N) Try.func15 (by kernel_rfl) (by kernel_rfl) (S := 1) (fun w hw => loopsOK_list (lp_yes (L0 w hw) (by kernel_rfl) lp_nil)) (fun _ => rfl) (r_wire_AppendNumber N)
theorem k_wire_AppendNumber {w0 : World} (N : Nat)  : SoundAt Try.prog w0 15 (ct_wire_AppendNumber N) :=
  s_wire_AppendNumber N cs_nil

abbrev A_slices_Clone_of_byte_byte : Ag (((Nat × List Int) × Unit)) := (.one (.tup (.cons (.lst .u8) (.one (.lit (.clo 5 []))))))
abbrev B_slices_Clone_of_byte_byte : Pt (((Nat × List Int) × Unit)) := (.tup (.cons (.lst .u8) (.one (.lit (.clo 5 [])))))
def ct_slices_Clone_of_byte_byte : Ct := fct A_slices_Clone_of_byte_byte B_slices_Clone_of_byte_byte fun x => slices_Clone_of_byte_byte x
theorem r0_slices_Clone_of_byte_byte : run Try.prog (fun _ => none) (glAt [] 0) 1 [] (fun _ => none) 100 Try.f30 [.nils] none B_slices_Clone_of_byte_byte.get = slices_Clone_of_byte_byte ((0, []), ()) := by
  kernel_rfl
theorem r1_slices_Clone_of_byte_byte : ∀ m l, run Try.prog (fun _ => none) (glAt [] 0) 1 [(0, .ints .u8 m l)] (fun _ => none) 100 Try.f30 [.gp 0 0 m 5 true 0] none B_slices_Clone_of_byte_byte.get = slices_Clone_of_byte_byte ((m, l), ()) := by
  intro m l; kernel_rfl
theorem k_slices_Clone_of_byte_byte {w0 : World} : SoundAt Try.prog w0 30 ct_slices_Clone_of_byte_byte :=
  fn_nil (n := 100) Try.func30 (by kernel_rfl) (by kernel_rfl) r0_slices_Clone_of_byte_byte r1_slices_Clone_of_byte_byte

def fA_wire_NewReader : Ag ((Nat × Nat × Nat)) := (.one (.gpw 32 5))
def fR_wire_NewReader : Ent ((Nat × List Int)) := (.one 32 (.lst .u8))
def fM_wire_NewReader : Ent (Unit) := .nil
def fB_wire_NewReader : Pt (Unit) := (.lit (.ptr 64 [] 53))
def fE_wire_NewReader : Ent (((Bool × (Nat × Nat × Nat) × Int) × (Nat × List Int))) := (.cons 64 (.agg (.cons .bool (.cons (.gpw 65 5) (.one (.int .i64))))) (.one 65 (.lst .u8)))
abbrev SIO_wire_NewReader (w0 : World) : Prop := SoundIo Try.prog w0 21 64 88 fA_wire_NewReader fR_wire_NewReader fM_wire_NewReader fB_wire_NewReader fE_wire_NewReader [32] (fun x => wire_NewReader x.1 x.2.1 x.2.2)
def cs_wire_NewReader : List (FuncId × Ct) := [(30, ct_slices_Clone_of_byte_byte)]
def gs_wire_NewReader : List Gv := []
noncomputable abbrev is_wire_NewReader : List (FuncId × Inl) := []
theorem isok_wire_NewReader {w0 : World} (hcs : ∀ x ∈ cs_wire_NewReader, SoundAt Try.prog w0 x.1 x.2) : AllOK Try.prog w0 gs_wire_NewReader 64 (is_wire_NewReader) := allok_nil
noncomputable def ls_wire_NewReader : List (Nat × Lf) := []
theorem r_wire_NewReader : IoRunIs Try.prog (cs_wire_NewReader) gs_wire_NewReader 64 (is_wire_NewReader) (ls_wire_NewReader) Try.f21 88 fA_wire_NewReader fR_wire_NewReader fM_wire_NewReader fB_wire_NewReader fE_wire_NewReader [32] (fun x => wire_NewReader x.1 x.2.1 x.2.2) := by
  intro x; kernel_rfl
theorem s_wire_NewReader {w0 : World}  (hcs : ∀ x ∈ cs_wire_NewReader, SoundAt Try.prog w0 x.1 x.2) : SIO_wire_NewReader w0 := by
  exact io_printed hcs (glob_nil _ _) (isok_wire_NewReader hcs) Try.func21 (by kernel_rfl) (by kernel_rfl) (fun w _ _ => loopsOK_nil _) (by kernel_rfl) (r_wire_NewReader)
theorem k_wire_NewReader {w0 : World}  : SIO_wire_NewReader w0 :=
  s_wire_NewReader (cs_cons (k_slices_Clone_of_byte_byte) cs_nil)

def fA_p_wire_Reader_is : Ag (Unit) := (.one (.lit (.ptr 32 [] 53)))
def fR_p_wire_Reader_is : Ent (((Bool × (Nat × Nat × Nat) × Int) × (Nat × List Int))) := (.cons 32 (.agg (.cons .bool (.cons (.gpw 33 5) (.one (.int .i64))))) (.one 33 (.lst .u8)))
def fM_p_wire_Reader_is : Ent (Unit) := .nil
def fB_p_wire_Reader_is : Pt (Bool) := .bool
def fE_p_wire_Reader_is : Ent (Unit) := .nil
abbrev SIO_p_wire_Reader_is (w0 : World) : Prop := SoundIo Try.prog w0 34 64 88 fA_p_wire_Reader_is fR_p_wire_Reader_is fM_p_wire_Reader_is fB_p_wire_Reader_is fE_p_wire_Reader_is [32, 33] (fun x => p_wire_Reader_is x.1 x.2.1 x.2.2)
def cs_p_wire_Reader_is : List (FuncId × Ct) := []
def gs_p_wire_Reader_is : List Gv := []
noncomputable abbrev is_p_wire_Reader_is : List (FuncId × Inl) := []
theorem isok_p_wire_Reader_is {w0 : World} (hcs : ∀ x ∈ cs_p_wire_Reader_is, SoundAt Try.prog w0 x.1 x.2) : AllOK Try.prog w0 gs_p_wire_Reader_is 64 (is_p_wire_Reader_is) := allok_nil
noncomputable def ls_p_wire_Reader_is : List (Nat × Lf) := []
theorem r_p_wire_Reader_is : IoRunIs Try.prog (cs_p_wire_Reader_is) gs_p_wire_Reader_is 64 (is_p_wire_Reader_is) (ls_p_wire_Reader_is) Try.f34 88 fA_p_wire_Reader_is fR_p_wire_Reader_is fM_p_wire_Reader_is fB_p_wire_Reader_is fE_p_wire_Reader_is [32, 33] (fun x => p_wire_Reader_is x.1 x.2.1 x.2.2) := by
  intro x; kernel_rfl
theorem s_p_wire_Reader_is {w0 : World}  (hcs : ∀ x ∈ cs_p_wire_Reader_is, SoundAt Try.prog w0 x.1 x.2) : SIO_p_wire_Reader_is w0 := by
  exact io_printed hcs (glob_nil _ _) (isok_p_wire_Reader_is hcs) Try.func34 (by kernel_rfl) (by kernel_rfl) (fun w _ _ => loopsOK_nil _) (by kernel_rfl) (r_p_wire_Reader_is)
theorem k_p_wire_Reader_is {w0 : World}  : SIO_p_wire_Reader_is w0 :=
  s_p_wire_Reader_is cs_nil

def fA_p_wire_Reader_sound : Ag (Unit) := (.one (.lit (.ptr 32 [] 53)))
def fR_p_wire_Reader_sound : Ent (((Bool × (Nat × Nat × Nat) × Int) × (Nat × List Int))) := (.cons 32 (.agg (.cons .bool (.cons (.gpw 33 5) (.one (.int .i64))))) (.one 33 (.lst .u8)))
def fM_p_wire_Reader_sound : Ent (Unit) := .nil
def fB_p_wire_Reader_sound : Pt (Bool) := .bool
def fE_p_wire_Reader_sound : Ent (Unit) := .nil
abbrev SIO_p_wire_Reader_sound (w0 : World) : Prop := SoundIo Try.prog w0 31 64 88 fA_p_wire_Reader_sound fR_p_wire_Reader_sound fM_p_wire_Reader_sound fB_p_wire_Reader_sound fE_p_wire_Reader_sound [32, 33] (fun x => p_wire_Reader_sound x.1 x.2.1 x.2.2)
def cs_p_wire_Reader_sound : List (FuncId × Ct) := []
def gs_p_wire_Reader_sound : List Gv := []
noncomputable abbrev is0_p_wire_Reader_sound : List (FuncId × Inl) := ((34, (Inl.ct Try.prog 64 64 88 fA_p_wire_Reader_is fR_p_wire_Reader_is fM_p_wire_Reader_is fB_p_wire_Reader_is fE_p_wire_Reader_is [32, 33] (fun x => p_wire_Reader_is x.1 x.2.1 x.2.2))) :: [])
theorem isok0_p_wire_Reader_sound {w0 : World} (hcs : ∀ x ∈ cs_p_wire_Reader_sound, SoundAt Try.prog w0 x.1 x.2) (hf34 : SIO_p_wire_Reader_is w0) : AllOK Try.prog w0 gs_p_wire_Reader_sound 64 (is0_p_wire_Reader_sound) := allok_cons (one_ct hf34 (by kernel_rfl) rfl) allok_nil
noncomputable abbrev is_p_wire_Reader_sound : List (FuncId × Inl) := (is0_p_wire_Reader_sound)
theorem isok_p_wire_Reader_sound {w0 : World} (hcs : ∀ x ∈ cs_p_wire_Reader_sound, SoundAt Try.prog w0 x.1 x.2) (hf34 : SIO_p_wire_Reader_is w0) : AllOK Try.prog w0 gs_p_wire_Reader_sound 64 (is_p_wire_Reader_sound) := (isok0_p_wire_Reader_sound hcs hf34)
noncomputable def ls_p_wire_Reader_sound : List (Nat × Lf) := []
theorem r_p_wire_Reader_sound : IoRunIs Try.prog (cs_p_wire_Reader_sound) gs_p_wire_Reader_sound 64 (is_p_wire_Reader_sound) (ls_p_wire_Reader_sound) Try.f31 88 fA_p_wire_Reader_sound fR_p_wire_Reader_sound fM_p_wire_Reader_sound fB_p_wire_Reader_sound fE_p_wire_Reader_sound [32, 33] (fun x => p_wire_Reader_sound x.1 x.2.1 x.2.2) := by
  intro x; kernel_rfl
theorem s_p_wire_Reader_sound {w0 : World}  (hcs : ∀ x ∈ cs_p_wire_Reader_sound, SoundAt Try.prog w0 x.1 x.2) (hf34 : SIO_p_wire_Reader_is w0) : SIO_p_wire_Reader_sound w0 := by
  exact io_printed hcs (glob_nil _ _) (isok_p_wire_Reader_sound hcs hf34) Try.func31 (by kernel_rfl) (by kernel_rfl) (fun w _ _ => loopsOK_nil _) (by kernel_rfl) (r_p_wire_Reader_sound)
theorem k_p_wire_Reader_sound {w0 : World}  : SIO_p_wire_Reader_sound w0 :=
  s_p_wire_Reader_sound cs_nil (k_p_wire_Reader_is)

def fA_p_wire_Reader_Fail : Ag ((Unit × Int)) := (.cons (.lit (.ptr 64 [] 53)) (.one (.int .i64)))
def fR_p_wire_Reader_Fail : Ent ((Nat × List Int)) := (.one 32 (.lst .u8))
def fM_p_wire_Reader_Fail : Ent ((Bool × (Nat × Nat × Nat) × Int)) := (.one 64 (.agg (.cons .bool (.cons (.gpw 32 5) (.one (.int .i64))))))
def fB_p_wire_Reader_Fail : Pt (Unit) := (.tup .nil)
def fE_p_wire_Reader_Fail : Ent ((Bool × (Nat × Nat × Nat) × Int)) := (.one 64 (.agg (.cons .bool (.cons (.gpw 32 5) (.one (.int .i64))))))
abbrev SIO_p_wire_Reader_Fail (w0 : World) : Prop := SoundIo Try.prog w0 35 64 89 fA_p_wire_Reader_Fail fR_p_wire_Reader_Fail fM_p_wire_Reader_Fail fB_p_wire_Reader_Fail fE_p_wire_Reader_Fail [32, 64] (fun x => p_wire_Reader_Fail x.1 x.2.1 x.2.2)
def cs_p_wire_Reader_Fail : List (FuncId × Ct) := []
def gs_p_wire_Reader_Fail : List Gv := []
noncomputable abbrev is0_p_wire_Reader_Fail : List (FuncId × Inl) := ((31, (Inl.ct Try.prog 64 64 88 fA_p_wire_Reader_sound fR_p_wire_Reader_sound fM_p_wire_Reader_sound fB_p_wire_Reader_sound fE_p_wire_Reader_sound [32, 33] (fun x => p_wire_Reader_sound x.1 x.2.1 x.2.2))) :: [])
theorem isok0_p_wire_Reader_Fail {w0 : World} (hcs : ∀ x ∈ cs_p_wire_Reader_Fail, SoundAt Try.prog w0 x.1 x.2) (hf31 : SIO_p_wire_Reader_sound w0) : AllOK Try.prog w0 gs_p_wire_Reader_Fail 64 (is0_p_wire_Reader_Fail) := allok_cons (one_ct hf31 (by kernel_rfl) rfl) allok_nil
noncomputable abbrev is_p_wire_Reader_Fail : List (FuncId × Inl) := (is0_p_wire_Reader_Fail)
theorem isok_p_wire_Reader_Fail {w0 : World} (hcs : ∀ x ∈ cs_p_wire_Reader_Fail, SoundAt Try.prog w0 x.1 x.2) (hf31 : SIO_p_wire_Reader_sound w0) : AllOK Try.prog w0 gs_p_wire_Reader_Fail 64 (is_p_wire_Reader_Fail) := (isok0_p_wire_Reader_Fail hcs hf31)
noncomputable def ls_p_wire_Reader_Fail : List (Nat × Lf) := []
theorem r_p_wire_Reader_Fail : IoRunIs Try.prog (cs_p_wire_Reader_Fail) gs_p_wire_Reader_Fail 64 (is_p_wire_Reader_Fail) (ls_p_wire_Reader_Fail) Try.f35 89 fA_p_wire_Reader_Fail fR_p_wire_Reader_Fail fM_p_wire_Reader_Fail fB_p_wire_Reader_Fail fE_p_wire_Reader_Fail [32, 64] (fun x => p_wire_Reader_Fail x.1 x.2.1 x.2.2) := by
  intro x; kernel_rfl
theorem s_p_wire_Reader_Fail {w0 : World}  (hcs : ∀ x ∈ cs_p_wire_Reader_Fail, SoundAt Try.prog w0 x.1 x.2) (hf31 : SIO_p_wire_Reader_sound w0) : SIO_p_wire_Reader_Fail w0 := by
  exact io_printed hcs (glob_nil _ _) (isok_p_wire_Reader_Fail hcs hf31) Try.func35 (by kernel_rfl) (by kernel_rfl) (fun w _ _ => loopsOK_nil _) (by kernel_rfl) (r_p_wire_Reader_Fail)
theorem k_p_wire_Reader_Fail {w0 : World}  : SIO_p_wire_Reader_Fail w0 :=
  s_p_wire_Reader_Fail cs_nil (k_p_wire_Reader_sound)

def fA_p_wire_Reader_count : Ag (Unit) := (.one (.lit (.ptr 64 [] 53)))
def fR_p_wire_Reader_count : Ent ((Nat × List Int)) := (.one 32 (.lst .u8))
def fM_p_wire_Reader_count : Ent ((Bool × (Nat × Nat × Nat) × Int)) := (.one 64 (.agg (.cons .bool (.cons (.gpw 32 5) (.one (.int .i64))))))
def fB_p_wire_Reader_count : Pt (Int) := (.int .u64)
def fE_p_wire_Reader_count : Ent ((Bool × (Nat × Nat × Nat) × Int)) := (.one 64 (.agg (.cons .bool (.cons (.gpw 32 5) (.one (.int .i64))))))
abbrev SIO_p_wire_Reader_count (w0 : World) : Prop := SoundIo Try.prog w0 32 64 89 fA_p_wire_Reader_count fR_p_wire_Reader_count fM_p_wire_Reader_count fB_p_wire_Reader_count fE_p_wire_Reader_count [32, 64] (fun x => p_wire_Reader_count x.1 x.2.1 x.2.2)
def cs_p_wire_Reader_count : List (FuncId × Ct) := []
def gs_p_wire_Reader_count : List Gv := []
noncomputable abbrev is0_p_wire_Reader_count : List (FuncId × Inl) := ((35, (Inl.ct Try.prog 64 64 89 fA_p_wire_Reader_Fail fR_p_wire_Reader_Fail fM_p_wire_Reader_Fail fB_p_wire_Reader_Fail fE_p_wire_Reader_Fail [32, 64] (fun x => p_wire_Reader_Fail x.1 x.2.1 x.2.2))) :: [])
theorem isok0_p_wire_Reader_count {w0 : World} (hcs : ∀ x ∈ cs_p_wire_Reader_count, SoundAt Try.prog w0 x.1 x.2) (hf35 : SIO_p_wire_Reader_Fail w0) : AllOK Try.prog w0 gs_p_wire_Reader_count 64 (is0_p_wire_Reader_count) := allok_cons (one_ct hf35 (by kernel_rfl) rfl) allok_nil
noncomputable abbrev is_p_wire_Reader_count : List (FuncId × Inl) := (is0_p_wire_Reader_count)
theorem isok_p_wire_Reader_count {w0 : World} (hcs : ∀ x ∈ cs_p_wire_Reader_count, SoundAt Try.prog w0 x.1 x.2) (hf35 : SIO_p_wire_Reader_Fail w0) : AllOK Try.prog w0 gs_p_wire_Reader_count 64 (is_p_wire_Reader_count) := (isok0_p_wire_Reader_count hcs hf35)
noncomputable def ls_p_wire_Reader_count : List (Nat × Lf) := []
theorem r_p_wire_Reader_count : IoRunIs Try.prog (cs_p_wire_Reader_count) gs_p_wire_Reader_count 64 (is_p_wire_Reader_count) (ls_p_wire_Reader_count) Try.f32 89 fA_p_wire_Reader_count fR_p_wire_Reader_count fM_p_wire_Reader_count fB_p_wire_Reader_count fE_p_wire_Reader_count [32, 64] (fun x => p_wire_Reader_count x.1 x.2.1 x.2.2) := by
  intro x; kernel_rfl
theorem s_p_wire_Reader_count {w0 : World}  (hcs : ∀ x ∈ cs_p_wire_Reader_count, SoundAt Try.prog w0 x.1 x.2) (hf35 : SIO_p_wire_Reader_Fail w0) : SIO_p_wire_Reader_count w0 := by
  exact io_printed hcs (glob_nil _ _) (isok_p_wire_Reader_count hcs hf35) Try.func32 (by kernel_rfl) (by kernel_rfl) (fun w _ _ => loopsOK_nil _) (by kernel_rfl) (r_p_wire_Reader_count)
theorem k_p_wire_Reader_count {w0 : World}  : SIO_p_wire_Reader_count w0 :=
  s_p_wire_Reader_count cs_nil (k_p_wire_Reader_Fail)

def fA_p_wire_Reader_Number : Ag ((Unit × Int)) := (.cons (.lit (.ptr 64 [] 53)) (.one (.int .u64)))
def fR_p_wire_Reader_Number : Ent ((Nat × List Int)) := (.one 32 (.lst .u8))
def fM_p_wire_Reader_Number : Ent ((Bool × (Nat × Nat × Nat) × Int)) := (.one 64 (.agg (.cons .bool (.cons (.gpw 32 5) (.one (.int .i64))))))
def fB_p_wire_Reader_Number : Pt (Int) := (.int .u64)
def fE_p_wire_Reader_Number : Ent ((Bool × (Nat × Nat × Nat) × Int)) := (.one 64 (.agg (.cons .bool (.cons (.gpw 32 5) (.one (.int .i64))))))
abbrev SIO_p_wire_Reader_Number (w0 : World) : Prop := SoundIo Try.prog w0 22 64 89 fA_p_wire_Reader_Number fR_p_wire_Reader_Number fM_p_wire_Reader_Number fB_p_wire_Reader_Number fE_p_wire_Reader_Number [32, 64] (fun x => p_wire_Reader_Number x.1 x.2.1 x.2.2)
def cs_p_wire_Reader_Number : List (FuncId × Ct) := []
def gs_p_wire_Reader_Number : List Gv := []
noncomputable abbrev is0_p_wire_Reader_Number : List (FuncId × Inl) := ((31, (Inl.ct Try.prog 64 64 88 fA_p_wire_Reader_sound fR_p_wire_Reader_sound fM_p_wire_Reader_sound fB_p_wire_Reader_sound fE_p_wire_Reader_sound [32, 33] (fun x => p_wire_Reader_sound x.1 x.2.1 x.2.2))) :: [])
theorem isok0_p_wire_Reader_Number {w0 : World} (hcs : ∀ x ∈ cs_p_wire_Reader_Number, SoundAt Try.prog w0 x.1 x.2) (hf31 : SIO_p_wire_Reader_sound w0) (hf32 : SIO_p_wire_Reader_count w0) (hf35 : SIO_p_wire_Reader_Fail w0) : AllOK Try.prog w0 gs_p_wire_Reader_Number 64 (is0_p_wire_Reader_Number) := allok_cons (one_ct hf31 (by kernel_rfl) rfl) allok_nil
noncomputable abbrev is1_p_wire_Reader_Number : List (FuncId × Inl) := ((32, (Inl.ct Try.prog 64 64 89 fA_p_wire_Reader_count fR_p_wire_Reader_count fM_p_wire_Reader_count fB_p_wire_Reader_count fE_p_wire_Reader_count [32, 64] (fun x => p_wire_Reader_count x.1 x.2.1 x.2.2))) :: (is0_p_wire_Reader_Number))
theorem isok1_p_wire_Reader_Number {w0 : World} (hcs : ∀ x ∈ cs_p_wire_Reader_Number, SoundAt Try.prog w0 x.1 x.2) (hf31 : SIO_p_wire_Reader_sound w0) (hf32 : SIO_p_wire_Reader_count w0) (hf35 : SIO_p_wire_Reader_Fail w0) : AllOK Try.prog w0 gs_p_wire_Reader_Number 64 (is1_p_wire_Reader_Number) := allok_cons (one_ct hf32 (by kernel_rfl) rfl) (isok0_p_wire_Reader_Number hcs hf31 hf32 hf35)
noncomputable abbrev is2_p_wire_Reader_Number : List (FuncId × Inl) := ((35, (Inl.ct Try.prog 64 64 89 fA_p_wire_Reader_Fail fR_p_wire_Reader_Fail fM_p_wire_Reader_Fail fB_p_wire_Reader_Fail fE_p_wire_Reader_Fail [32, 64] (fun x => p_wire_Reader_Fail x.1 x.2.1 x.2.2))) :: (is1_p_wire_Reader_Number))
theorem isok2_p_wire_Reader_Number {w0 : World} (hcs : ∀ x ∈ cs_p_wire_Reader_Number, SoundAt Try.prog w0 x.1 x.2) (hf31 : SIO_p_wire_Reader_sound w0) (hf32 : SIO_p_wire_Reader_count w0) (hf35 : SIO_p_wire_Reader_Fail w0) : AllOK Try.prog w0 gs_p_wire_Reader_Number 64 (is2_p_wire_Reader_Number) := allok_cons (one_ct hf35 (by kernel_rfl) rfl) (isok1_p_wire_Reader_Number hcs hf31 hf32 hf35)
noncomputable abbrev is3_p_wire_Reader_Number : List (FuncId × Inl) := ((33, (inlOf Try.prog (cs_p_wire_Reader_Number) gs_p_wire_Reader_Number 64 100 (is2_p_wire_Reader_Number) Try.f33)) :: (is2_p_wire_Reader_Number))
theorem isok3_p_wire_Reader_Number {w0 : World} (hcs : ∀ x ∈ cs_p_wire_Reader_Number, SoundAt Try.prog w0 x.1 x.2) (hf31 : SIO_p_wire_Reader_sound w0) (hf32 : SIO_p_wire_Reader_count w0) (hf35 : SIO_p_wire_Reader_Fail w0) : AllOK Try.prog w0 gs_p_wire_Reader_Number 64 (is3_p_wire_Reader_Number) := allok_cons (one_of hcs (isok2_p_wire_Reader_Number hcs hf31 hf32 hf35) Try.func33 (by kernel_rfl) (by kernel_rfl)) (isok2_p_wire_Reader_Number hcs hf31 hf32 hf35)
noncomputable abbrev is_p_wire_Reader_Number : List (FuncId × Inl) := (is3_p_wire_Reader_Number)
theorem isok_p_wire_Reader_Number {w0 : World} (hcs : ∀ x ∈ cs_p_wire_Reader_Number, SoundAt Try.prog w0 x.1 x.2) (hf31 : SIO_p_wire_Reader_sound w0) (hf32 : SIO_p_wire_Reader_count w0) (hf35 : SIO_p_wire_Reader_Fail w0) : AllOK Try.prog w0 gs_p_wire_Reader_Number 64 (is_p_wire_Reader_Number) := (isok3_p_wire_Reader_Number hcs hf31 hf32 hf35)
noncomputable def ls_p_wire_Reader_Number : List (Nat × Lf) := []
theorem r_p_wire_Reader_Number : IoRunIs Try.prog (cs_p_wire_Reader_Number) gs_p_wire_Reader_Number 64 (is_p_wire_Reader_Number) (ls_p_wire_Reader_Number) Try.f22 89 fA_p_wire_Reader_Number fR_p_wire_Reader_Number fM_p_wire_Reader_Number fB_p_wire_Reader_Number fE_p_wire_Reader_Number [32, 64] (fun x => p_wire_Reader_Number x.1 x.2.1 x.2.2) := by
  intro x; kernel_rfl
theorem s_p_wire_Reader_Number {w0 : World}  (hcs : ∀ x ∈ cs_p_wire_Reader_Number, SoundAt Try.prog w0 x.1 x.2) (hf31 : SIO_p_wire_Reader_sound w0) (hf32 : SIO_p_wire_Reader_count w0) (hf35 : SIO_p_wire_Reader_Fail w0) : SIO_p_wire_Reader_Number w0 := by
  exact io_printed hcs (glob_nil _ _) (isok_p_wire_Reader_Number hcs hf31 hf32 hf35) Try.func22 (by kernel_rfl) (by kernel_rfl) (fun w _ _ => loopsOK_nil _) (by kernel_rfl) (r_p_wire_Reader_Number)
theorem k_p_wire_Reader_Number {w0 : World}  : SIO_p_wire_Reader_Number w0 :=
  s_p_wire_Reader_Number cs_nil (k_p_wire_Reader_sound) (k_p_wire_Reader_count) (k_p_wire_Reader_Fail)

def fA_p_wire_Reader_Bytes : Ag ((Unit × Int)) := (.cons (.lit (.ptr 64 [] 53)) (.one (.int .i64)))
def fR_p_wire_Reader_Bytes : Ent ((Nat × List Int)) := (.one 32 (.lst .u8))
def fM_p_wire_Reader_Bytes : Ent ((Bool × (Nat × Nat × Nat) × Int)) := (.one 64 (.agg (.cons .bool (.cons (.gpw 32 5) (.one (.int .i64))))))
def fB_p_wire_Reader_Bytes : Pt (Nat) := (.gsw 65 5)
def fE_p_wire_Reader_Bytes : Ent (((Bool × (Nat × Nat × Nat) × Int) × (Nat × List Int))) := (.cons 64 (.agg (.cons .bool (.cons (.gpw 32 5) (.one (.int .i64))))) (.one 65 (.lst .u8)))
abbrev SIO_p_wire_Reader_Bytes (w0 : World) : Prop := SoundIo Try.prog w0 25 64 89 fA_p_wire_Reader_Bytes fR_p_wire_Reader_Bytes fM_p_wire_Reader_Bytes fB_p_wire_Reader_Bytes fE_p_wire_Reader_Bytes [32, 64] (fun x => p_wire_Reader_Bytes x.1 x.2.1 x.2.2)
def cs_p_wire_Reader_Bytes : List (FuncId × Ct) := [(30, ct_slices_Clone_of_byte_byte)]
def gs_p_wire_Reader_Bytes : List Gv := []
noncomputable abbrev is0_p_wire_Reader_Bytes : List (FuncId × Inl) := ((31, (Inl.ct Try.prog 64 64 88 fA_p_wire_Reader_sound fR_p_wire_Reader_sound fM_p_wire_Reader_sound fB_p_wire_Reader_sound fE_p_wire_Reader_sound [32, 33] (fun x => p_wire_Reader_sound x.1 x.2.1 x.2.2))) :: [])
theorem isok0_p_wire_Reader_Bytes {w0 : World} (hcs : ∀ x ∈ cs_p_wire_Reader_Bytes, SoundAt Try.prog w0 x.1 x.2) (hf31 : SIO_p_wire_Reader_sound w0) (hf35 : SIO_p_wire_Reader_Fail w0) (hf32 : SIO_p_wire_Reader_count w0) : AllOK Try.prog w0 gs_p_wire_Reader_Bytes 64 (is0_p_wire_Reader_Bytes) := allok_cons (one_ct hf31 (by kernel_rfl) rfl) allok_nil
noncomputable abbrev is1_p_wire_Reader_Bytes : List (FuncId × Inl) := ((35, (Inl.ct Try.prog 64 64 89 fA_p_wire_Reader_Fail fR_p_wire_Reader_Fail fM_p_wire_Reader_Fail fB_p_wire_Reader_Fail fE_p_wire_Reader_Fail [32, 64] (fun x => p_wire_Reader_Fail x.1 x.2.1 x.2.2))) :: (is0_p_wire_Reader_Bytes))
theorem isok1_p_wire_Reader_Bytes {w0 : World} (hcs : ∀ x ∈ cs_p_wire_Reader_Bytes, SoundAt Try.prog w0 x.1 x.2) (hf31 : SIO_p_wire_Reader_sound w0) (hf35 : SIO_p_wire_Reader_Fail w0) (hf32 : SIO_p_wire_Reader_count w0) : AllOK Try.prog w0 gs_p_wire_Reader_Bytes 64 (is1_p_wire_Reader_Bytes) := allok_cons (one_ct hf35 (by kernel_rfl) rfl) (isok0_p_wire_Reader_Bytes hcs hf31 hf35 hf32)
noncomputable abbrev is2_p_wire_Reader_Bytes : List (FuncId × Inl) := ((32, (Inl.ct Try.prog 64 64 89 fA_p_wire_Reader_count fR_p_wire_Reader_count fM_p_wire_Reader_count fB_p_wire_Reader_count fE_p_wire_Reader_count [32, 64] (fun x => p_wire_Reader_count x.1 x.2.1 x.2.2))) :: (is1_p_wire_Reader_Bytes))
theorem isok2_p_wire_Reader_Bytes {w0 : World} (hcs : ∀ x ∈ cs_p_wire_Reader_Bytes, SoundAt Try.prog w0 x.1 x.2) (hf31 : SIO_p_wire_Reader_sound w0) (hf35 : SIO_p_wire_Reader_Fail w0) (hf32 : SIO_p_wire_Reader_count w0) : AllOK Try.prog w0 gs_p_wire_Reader_Bytes 64 (is2_p_wire_Reader_Bytes) := allok_cons (one_ct hf32 (by kernel_rfl) rfl) (isok1_p_wire_Reader_Bytes hcs hf31 hf35 hf32)
noncomputable abbrev is3_p_wire_Reader_Bytes : List (FuncId × Inl) := ((33, (inlOf Try.prog (cs_p_wire_Reader_Bytes) gs_p_wire_Reader_Bytes 64 100 (is2_p_wire_Reader_Bytes) Try.f33)) :: (is2_p_wire_Reader_Bytes))
theorem isok3_p_wire_Reader_Bytes {w0 : World} (hcs : ∀ x ∈ cs_p_wire_Reader_Bytes, SoundAt Try.prog w0 x.1 x.2) (hf31 : SIO_p_wire_Reader_sound w0) (hf35 : SIO_p_wire_Reader_Fail w0) (hf32 : SIO_p_wire_Reader_count w0) : AllOK Try.prog w0 gs_p_wire_Reader_Bytes 64 (is3_p_wire_Reader_Bytes) := allok_cons (one_of hcs (isok2_p_wire_Reader_Bytes hcs hf31 hf35 hf32) Try.func33 (by kernel_rfl) (by kernel_rfl)) (isok2_p_wire_Reader_Bytes hcs hf31 hf35 hf32)
noncomputable abbrev is_p_wire_Reader_Bytes : List (FuncId × Inl) := (is3_p_wire_Reader_Bytes)
theorem isok_p_wire_Reader_Bytes {w0 : World} (hcs : ∀ x ∈ cs_p_wire_Reader_Bytes, SoundAt Try.prog w0 x.1 x.2) (hf31 : SIO_p_wire_Reader_sound w0) (hf35 : SIO_p_wire_Reader_Fail w0) (hf32 : SIO_p_wire_Reader_count w0) : AllOK Try.prog w0 gs_p_wire_Reader_Bytes 64 (is_p_wire_Reader_Bytes) := (isok3_p_wire_Reader_Bytes hcs hf31 hf35 hf32)
noncomputable def ls_p_wire_Reader_Bytes : List (Nat × Lf) := []
theorem r_p_wire_Reader_Bytes : IoRunIs Try.prog (cs_p_wire_Reader_Bytes) gs_p_wire_Reader_Bytes 64 (is_p_wire_Reader_Bytes) (ls_p_wire_Reader_Bytes) Try.f25 89 fA_p_wire_Reader_Bytes fR_p_wire_Reader_Bytes fM_p_wire_Reader_Bytes fB_p_wire_Reader_Bytes fE_p_wire_Reader_Bytes [32, 64] (fun x => p_wire_Reader_Bytes x.1 x.2.1 x.2.2) := by
  intro x; kernel_rfl
theorem s_p_wire_Reader_Bytes {w0 : World}  (hcs : ∀ x ∈ cs_p_wire_Reader_Bytes, SoundAt Try.prog w0 x.1 x.2) (hf31 : SIO_p_wire_Reader_sound w0) (hf35 : SIO_p_wire_Reader_Fail w0) (hf32 : SIO_p_wire_Reader_count w0) : SIO_p_wire_Reader_Bytes w0 := by
  exact io_printed hcs (glob_nil _ _) (isok_p_wire_Reader_Bytes hcs hf31 hf35 hf32) Try.func25 (by kernel_rfl) (by kernel_rfl) (fun w _ _ => loopsOK_nil _) (by kernel_rfl) (r_p_wire_Reader_Bytes)
theorem k_p_wire_Reader_Bytes {w0 : World}  : SIO_p_wire_Reader_Bytes w0 :=
  s_p_wire_Reader_Bytes (cs_cons (k_slices_Clone_of_byte_byte) cs_nil) (k_p_wire_Reader_sound) (k_p_wire_Reader_Fail) (k_p_wire_Reader_count)

def fA_p_wire_Reader_Err : Ag (Unit) := (.one (.lit (.ptr 32 [] 53)))
def fR_p_wire_Reader_Err : Ent (((Bool × (Nat × Nat × Nat) × Int) × (Nat × List Int))) := (.cons 32 (.agg (.cons .bool (.cons (.gpw 33 5) (.one (.int .i64))))) (.one 33 (.lst .u8)))
def fM_p_wire_Reader_Err : Ent (Unit) := .nil
def fB_p_wire_Reader_Err : Pt (Int) := (.int .i64)
def fE_p_wire_Reader_Err : Ent (Unit) := .nil
abbrev SIO_p_wire_Reader_Err (w0 : World) : Prop := SoundIo Try.prog w0 23 64 88 fA_p_wire_Reader_Err fR_p_wire_Reader_Err fM_p_wire_Reader_Err fB_p_wire_Reader_Err fE_p_wire_Reader_Err [32, 33] (fun x => p_wire_Reader_Err x.1 x.2.1 x.2.2)
def cs_p_wire_Reader_Err : List (FuncId × Ct) := []
def gs_p_wire_Reader_Err : List Gv := []
noncomputable abbrev is0_p_wire_Reader_Err : List (FuncId × Inl) := ((34, (Inl.ct Try.prog 64 64 88 fA_p_wire_Reader_is fR_p_wire_Reader_is fM_p_wire_Reader_is fB_p_wire_Reader_is fE_p_wire_Reader_is [32, 33] (fun x => p_wire_Reader_is x.1 x.2.1 x.2.2))) :: [])
theorem isok0_p_wire_Reader_Err {w0 : World} (hcs : ∀ x ∈ cs_p_wire_Reader_Err, SoundAt Try.prog w0 x.1 x.2) (hf34 : SIO_p_wire_Reader_is w0) : AllOK Try.prog w0 gs_p_wire_Reader_Err 64 (is0_p_wire_Reader_Err) := allok_cons (one_ct hf34 (by kernel_rfl) rfl) allok_nil
noncomputable abbrev is_p_wire_Reader_Err : List (FuncId × Inl) := (is0_p_wire_Reader_Err)
theorem isok_p_wire_Reader_Err {w0 : World} (hcs : ∀ x ∈ cs_p_wire_Reader_Err, SoundAt Try.prog w0 x.1 x.2) (hf34 : SIO_p_wire_Reader_is w0) : AllOK Try.prog w0 gs_p_wire_Reader_Err 64 (is_p_wire_Reader_Err) := (isok0_p_wire_Reader_Err hcs hf34)
noncomputable def ls_p_wire_Reader_Err : List (Nat × Lf) := []
theorem r_p_wire_Reader_Err : IoRunIs Try.prog (cs_p_wire_Reader_Err) gs_p_wire_Reader_Err 64 (is_p_wire_Reader_Err) (ls_p_wire_Reader_Err) Try.f23 88 fA_p_wire_Reader_Err fR_p_wire_Reader_Err fM_p_wire_Reader_Err fB_p_wire_Reader_Err fE_p_wire_Reader_Err [32, 33] (fun x => p_wire_Reader_Err x.1 x.2.1 x.2.2) := by
  intro x; kernel_rfl
theorem s_p_wire_Reader_Err {w0 : World}  (hcs : ∀ x ∈ cs_p_wire_Reader_Err, SoundAt Try.prog w0 x.1 x.2) (hf34 : SIO_p_wire_Reader_is w0) : SIO_p_wire_Reader_Err w0 := by
  exact io_printed hcs (glob_nil _ _) (isok_p_wire_Reader_Err hcs hf34) Try.func23 (by kernel_rfl) (by kernel_rfl) (fun w _ _ => loopsOK_nil _) (by kernel_rfl) (r_p_wire_Reader_Err)
theorem k_p_wire_Reader_Err {w0 : World}  : SIO_p_wire_Reader_Err w0 :=
  s_p_wire_Reader_Err cs_nil (k_p_wire_Reader_is)

def fA_p_wire_Reader_End : Ag (Unit) := (.one (.lit (.ptr 64 [] 53)))
def fR_p_wire_Reader_End : Ent ((Nat × List Int)) := (.one 32 (.lst .u8))
def fM_p_wire_Reader_End : Ent ((Bool × (Nat × Nat × Nat) × Int)) := (.one 64 (.agg (.cons .bool (.cons (.gpw 32 5) (.one (.int .i64))))))
def fB_p_wire_Reader_End : Pt (Int) := (.int .i64)
def fE_p_wire_Reader_End : Ent ((Bool × (Nat × Nat × Nat) × Int)) := (.one 64 (.agg (.cons .bool (.cons (.gpw 32 5) (.one (.int .i64))))))
abbrev SIO_p_wire_Reader_End (w0 : World) : Prop := SoundIo Try.prog w0 29 64 89 fA_p_wire_Reader_End fR_p_wire_Reader_End fM_p_wire_Reader_End fB_p_wire_Reader_End fE_p_wire_Reader_End [32, 64] (fun x => p_wire_Reader_End x.1 x.2.1 x.2.2)
def cs_p_wire_Reader_End : List (FuncId × Ct) := []
def gs_p_wire_Reader_End : List Gv := []
noncomputable abbrev is0_p_wire_Reader_End : List (FuncId × Inl) := ((31, (Inl.ct Try.prog 64 64 88 fA_p_wire_Reader_sound fR_p_wire_Reader_sound fM_p_wire_Reader_sound fB_p_wire_Reader_sound fE_p_wire_Reader_sound [32, 33] (fun x => p_wire_Reader_sound x.1 x.2.1 x.2.2))) :: [])
theorem isok0_p_wire_Reader_End {w0 : World} (hcs : ∀ x ∈ cs_p_wire_Reader_End, SoundAt Try.prog w0 x.1 x.2) (hf31 : SIO_p_wire_Reader_sound w0) (hf35 : SIO_p_wire_Reader_Fail w0) (hf23 : SIO_p_wire_Reader_Err w0) : AllOK Try.prog w0 gs_p_wire_Reader_End 64 (is0_p_wire_Reader_End) := allok_cons (one_ct hf31 (by kernel_rfl) rfl) allok_nil
noncomputable abbrev is1_p_wire_Reader_End : List (FuncId × Inl) := ((35, (Inl.ct Try.prog 64 64 89 fA_p_wire_Reader_Fail fR_p_wire_Reader_Fail fM_p_wire_Reader_Fail fB_p_wire_Reader_Fail fE_p_wire_Reader_Fail [32, 64] (fun x => p_wire_Reader_Fail x.1 x.2.1 x.2.2))) :: (is0_p_wire_Reader_End))
theorem isok1_p_wire_Reader_End {w0 : World} (hcs : ∀ x ∈ cs_p_wire_Reader_End, SoundAt Try.prog w0 x.1 x.2) (hf31 : SIO_p_wire_Reader_sound w0) (hf35 : SIO_p_wire_Reader_Fail w0) (hf23 : SIO_p_wire_Reader_Err w0) : AllOK Try.prog w0 gs_p_wire_Reader_End 64 (is1_p_wire_Reader_End) := allok_cons (one_ct hf35 (by kernel_rfl) rfl) (isok0_p_wire_Reader_End hcs hf31 hf35 hf23)
noncomputable abbrev is2_p_wire_Reader_End : List (FuncId × Inl) := ((23, (Inl.ct Try.prog 64 64 88 fA_p_wire_Reader_Err fR_p_wire_Reader_Err fM_p_wire_Reader_Err fB_p_wire_Reader_Err fE_p_wire_Reader_Err [32, 33] (fun x => p_wire_Reader_Err x.1 x.2.1 x.2.2))) :: (is1_p_wire_Reader_End))
theorem isok2_p_wire_Reader_End {w0 : World} (hcs : ∀ x ∈ cs_p_wire_Reader_End, SoundAt Try.prog w0 x.1 x.2) (hf31 : SIO_p_wire_Reader_sound w0) (hf35 : SIO_p_wire_Reader_Fail w0) (hf23 : SIO_p_wire_Reader_Err w0) : AllOK Try.prog w0 gs_p_wire_Reader_End 64 (is2_p_wire_Reader_End) := allok_cons (one_ct hf23 (by kernel_rfl) rfl) (isok1_p_wire_Reader_End hcs hf31 hf35 hf23)
noncomputable abbrev is_p_wire_Reader_End : List (FuncId × Inl) := (is2_p_wire_Reader_End)
theorem isok_p_wire_Reader_End {w0 : World} (hcs : ∀ x ∈ cs_p_wire_Reader_End, SoundAt Try.prog w0 x.1 x.2) (hf31 : SIO_p_wire_Reader_sound w0) (hf35 : SIO_p_wire_Reader_Fail w0) (hf23 : SIO_p_wire_Reader_Err w0) : AllOK Try.prog w0 gs_p_wire_Reader_End 64 (is_p_wire_Reader_End) := (isok2_p_wire_Reader_End hcs hf31 hf35 hf23)
noncomputable def ls_p_wire_Reader_End : List (Nat × Lf) := []
theorem r_p_wire_Reader_End : IoRunIs Try.prog (cs_p_wire_Reader_End) gs_p_wire_Reader_End 64 (is_p_wire_Reader_End) (ls_p_wire_Reader_End) Try.f29 89 fA_p_wire_Reader_End fR_p_wire_Reader_End fM_p_wire_Reader_End fB_p_wire_Reader_End fE_p_wire_Reader_End [32, 64] (fun x => p_wire_Reader_End x.1 x.2.1 x.2.2) := by
  intro x; kernel_rfl
theorem s_p_wire_Reader_End {w0 : World}  (hcs : ∀ x ∈ cs_p_wire_Reader_End, SoundAt Try.prog w0 x.1 x.2) (hf31 : SIO_p_wire_Reader_sound w0) (hf35 : SIO_p_wire_Reader_Fail w0) (hf23 : SIO_p_wire_Reader_Err w0) : SIO_p_wire_Reader_End w0 := by
  exact io_printed hcs (glob_nil _ _) (isok_p_wire_Reader_End hcs hf31 hf35 hf23) Try.func29 (by kernel_rfl) (by kernel_rfl) (fun w _ _ => loopsOK_nil _) (by kernel_rfl) (r_p_wire_Reader_End)
theorem k_p_wire_Reader_End {w0 : World}  : SIO_p_wire_Reader_End w0 :=
  s_p_wire_Reader_End cs_nil (k_p_wire_Reader_sound) (k_p_wire_Reader_Fail) (k_p_wire_Reader_Err)

abbrev A_veillaw10_live : Ag (Unit) := .nil
abbrev B_veillaw10_live : Pt (Bool) := .bool
def ct_veillaw10_live (N : Nat) : Ct := fct A_veillaw10_live B_veillaw10_live fun x => veillaw10_live N
def cs_veillaw10_live (N : Nat) : List (FuncId × Ct) := [(15, (ct_wire_AppendNumber_nil N))]
def gs_veillaw10_live : List Gv := []
noncomputable abbrev is0_veillaw10_live (N : Nat) : List (FuncId × Inl) := ((21, (Inl.ct Try.prog 0 64 88 fA_wire_NewReader fR_wire_NewReader fM_wire_NewReader fB_wire_NewReader fE_wire_NewReader [32] (fun x => wire_NewReader x.1 x.2.1 x.2.2))) :: [])
theorem isok0_veillaw10_live {w0 : World} (N : Nat) (hcs : ∀ x ∈ cs_veillaw10_live N, SoundAt Try.prog w0 x.1 x.2) (hf21 : SIO_wire_NewReader w0) (hf22 : SIO_p_wire_Reader_Number w0) (hf29 : SIO_p_wire_Reader_End w0) : AllOK Try.prog w0 gs_veillaw10_live 0 (is0_veillaw10_live N) := allok_cons (one_ct hf21 (by kernel_rfl) rfl) allok_nil
noncomputable abbrev is1_veillaw10_live (N : Nat) : List (FuncId × Inl) := ((22, (Inl.ct Try.prog 0 64 89 fA_p_wire_Reader_Number fR_p_wire_Reader_Number fM_p_wire_Reader_Number fB_p_wire_Reader_Number fE_p_wire_Reader_Number [32, 64] (fun x => p_wire_Reader_Number x.1 x.2.1 x.2.2))) :: (is0_veillaw10_live N))
theorem isok1_veillaw10_live {w0 : World} (N : Nat) (hcs : ∀ x ∈ cs_veillaw10_live N, SoundAt Try.prog w0 x.1 x.2) (hf21 : SIO_wire_NewReader w0) (hf22 : SIO_p_wire_Reader_Number w0) (hf29 : SIO_p_wire_Reader_End w0) : AllOK Try.prog w0 gs_veillaw10_live 0 (is1_veillaw10_live N) := allok_cons (one_ct hf22 (by kernel_rfl) rfl) (isok0_veillaw10_live N hcs hf21 hf22 hf29)
noncomputable abbrev is2_veillaw10_live (N : Nat) : List (FuncId × Inl) := ((29, (Inl.ct Try.prog 0 64 89 fA_p_wire_Reader_End fR_p_wire_Reader_End fM_p_wire_Reader_End fB_p_wire_Reader_End fE_p_wire_Reader_End [32, 64] (fun x => p_wire_Reader_End x.1 x.2.1 x.2.2))) :: (is1_veillaw10_live N))
theorem isok2_veillaw10_live {w0 : World} (N : Nat) (hcs : ∀ x ∈ cs_veillaw10_live N, SoundAt Try.prog w0 x.1 x.2) (hf21 : SIO_wire_NewReader w0) (hf22 : SIO_p_wire_Reader_Number w0) (hf29 : SIO_p_wire_Reader_End w0) : AllOK Try.prog w0 gs_veillaw10_live 0 (is2_veillaw10_live N) := allok_cons (one_ct hf29 (by kernel_rfl) rfl) (isok1_veillaw10_live N hcs hf21 hf22 hf29)
noncomputable abbrev is_veillaw10_live (N : Nat) : List (FuncId × Inl) := (is2_veillaw10_live N)
theorem isok_veillaw10_live {w0 : World} (N : Nat) (hcs : ∀ x ∈ cs_veillaw10_live N, SoundAt Try.prog w0 x.1 x.2) (hf21 : SIO_wire_NewReader w0) (hf22 : SIO_p_wire_Reader_Number w0) (hf29 : SIO_p_wire_Reader_End w0) : AllOK Try.prog w0 gs_veillaw10_live 0 (is_veillaw10_live N) := (isok2_veillaw10_live N hcs hf21 hf22 hf29)
noncomputable def ls_veillaw10_live (N : Nat) : List (Nat × Lf) := []
theorem r_veillaw10_live (N : Nat) : RunIs Try.prog (cs_veillaw10_live N) gs_veillaw10_live 0 (ls_veillaw10_live N) Try.f19 A_veillaw10_live B_veillaw10_live (fun x => veillaw10_live N) (fun g => lkI g (is_veillaw10_live N)) := by
  intro x; kernel_rfl
theorem s_veillaw10_live {w0 : World} (N : Nat)  (hcs : ∀ x ∈ cs_veillaw10_live N, SoundAt Try.prog w0 x.1 x.2) (hf21 : SIO_wire_NewReader w0) (hf22 : SIO_p_wire_Reader_Number w0) (hf29 : SIO_p_wire_Reader_End w0) : SoundAt Try.prog w0 19 (ct_veillaw10_live N) := by
  exact fn_printedO hcs (glob_nil _ _) (isok_veillaw10_live N hcs hf21 hf22 hf29) Try.func19 (by kernel_rfl) (by kernel_rfl) (S := 0) (fun w _ => loopsOK_nil _) (fun _ => rfl) (r_veillaw10_live N)
theorem k_veillaw10_live {w0 : World} (N : Nat)  : SoundAt Try.prog w0 19 (ct_veillaw10_live N) :=
  s_veillaw10_live N (cs_cons (k_wire_AppendNumber_nil N) cs_nil) (k_wire_NewReader) (k_p_wire_Reader_Number) (k_p_wire_Reader_End)

def fA_veillaw10_reads : Ag ((List ((Bool × Int × List (Int))) × (Nat × Nat × Nat) × Int)) := (.cons (.dvw 32 38 (.agg (.cons (.tc .bool) (.cons (.tc (.int .u64)) (.row (.tc (.int .u8)) 5))))) (.cons (.gpw 33 5) (.one (.int .i64))))
def fR_veillaw10_reads : Ent ((Nat × List Int)) := (.one 33 (.lst .u8))
def fM_veillaw10_reads : Ent (Unit) := .nil
def fB_veillaw10_reads : Pt (Bool) := .bool
def fE_veillaw10_reads : Ent (Unit) := .nil
abbrev SIO_veillaw10_reads (w0 : World) (N : Nat) : Prop := SoundIo Try.prog w0 20 64 88 fA_veillaw10_reads fR_veillaw10_reads fM_veillaw10_reads fB_veillaw10_reads fE_veillaw10_reads [33] (fun x => veillaw10_reads N x.1 x.2.1 x.2.2)
def cs_veillaw10_reads (N : Nat) : List (FuncId × Ct) := []
def gs_veillaw10_reads : List Gv := []
noncomputable abbrev is0_veillaw10_reads (N : Nat) : List (FuncId × Inl) := ((21, (Inl.ct Try.prog 64 64 88 fA_wire_NewReader fR_wire_NewReader fM_wire_NewReader fB_wire_NewReader fE_wire_NewReader [32] (fun x => wire_NewReader x.1 x.2.1 x.2.2))) :: [])
theorem isok0_veillaw10_reads {w0 : World} (N : Nat) (hcs : ∀ x ∈ cs_veillaw10_reads N, SoundAt Try.prog w0 x.1 x.2) (hf21 : SIO_wire_NewReader w0) (hf25 : SIO_p_wire_Reader_Bytes w0) (hf23 : SIO_p_wire_Reader_Err w0) (hf22 : SIO_p_wire_Reader_Number w0) (hf29 : SIO_p_wire_Reader_End w0) : AllOK Try.prog w0 gs_veillaw10_reads 64 (is0_veillaw10_reads N) := allok_cons (one_ct hf21 (by kernel_rfl) rfl) allok_nil
noncomputable abbrev is1_veillaw10_reads (N : Nat) : List (FuncId × Inl) := ((25, (Inl.ct Try.prog 64 64 89 fA_p_wire_Reader_Bytes fR_p_wire_Reader_Bytes fM_p_wire_Reader_Bytes fB_p_wire_Reader_Bytes fE_p_wire_Reader_Bytes [32, 64] (fun x => p_wire_Reader_Bytes x.1 x.2.1 x.2.2))) :: (is0_veillaw10_reads N))
theorem isok1_veillaw10_reads {w0 : World} (N : Nat) (hcs : ∀ x ∈ cs_veillaw10_reads N, SoundAt Try.prog w0 x.1 x.2) (hf21 : SIO_wire_NewReader w0) (hf25 : SIO_p_wire_Reader_Bytes w0) (hf23 : SIO_p_wire_Reader_Err w0) (hf22 : SIO_p_wire_Reader_Number w0) (hf29 : SIO_p_wire_Reader_End w0) : AllOK Try.prog w0 gs_veillaw10_reads 64 (is1_veillaw10_reads N) := allok_cons (one_ct hf25 (by kernel_rfl) rfl) (isok0_veillaw10_reads N hcs hf21 hf25 hf23 hf22 hf29)
noncomputable abbrev is2_veillaw10_reads (N : Nat) : List (FuncId × Inl) := ((23, (Inl.ct Try.prog 64 64 88 fA_p_wire_Reader_Err fR_p_wire_Reader_Err fM_p_wire_Reader_Err fB_p_wire_Reader_Err fE_p_wire_Reader_Err [32, 33] (fun x => p_wire_Reader_Err x.1 x.2.1 x.2.2))) :: (is1_veillaw10_reads N))
theorem isok2_veillaw10_reads {w0 : World} (N : Nat) (hcs : ∀ x ∈ cs_veillaw10_reads N, SoundAt Try.prog w0 x.1 x.2) (hf21 : SIO_wire_NewReader w0) (hf25 : SIO_p_wire_Reader_Bytes w0) (hf23 : SIO_p_wire_Reader_Err w0) (hf22 : SIO_p_wire_Reader_Number w0) (hf29 : SIO_p_wire_Reader_End w0) : AllOK Try.prog w0 gs_veillaw10_reads 64 (is2_veillaw10_reads N) := allok_cons (one_ct hf23 (by kernel_rfl) rfl) (isok1_veillaw10_reads N hcs hf21 hf25 hf23 hf22 hf29)
noncomputable abbrev is3_veillaw10_reads (N : Nat) : List (FuncId × Inl) := ((22, (Inl.ct Try.prog 64 64 89 fA_p_wire_Reader_Number fR_p_wire_Reader_Number fM_p_wire_Reader_Number fB_p_wire_Reader_Number fE_p_wire_Reader_Number [32, 64] (fun x => p_wire_Reader_Number x.1 x.2.1 x.2.2))) :: (is2_veillaw10_reads N))
theorem isok3_veillaw10_reads {w0 : World} (N : Nat) (hcs : ∀ x ∈ cs_veillaw10_reads N, SoundAt Try.prog w0 x.1 x.2) (hf21 : SIO_wire_NewReader w0) (hf25 : SIO_p_wire_Reader_Bytes w0) (hf23 : SIO_p_wire_Reader_Err w0) (hf22 : SIO_p_wire_Reader_Number w0) (hf29 : SIO_p_wire_Reader_End w0) : AllOK Try.prog w0 gs_veillaw10_reads 64 (is3_veillaw10_reads N) := allok_cons (one_ct hf22 (by kernel_rfl) rfl) (isok2_veillaw10_reads N hcs hf21 hf25 hf23 hf22 hf29)
noncomputable abbrev is4_veillaw10_reads (N : Nat) : List (FuncId × Inl) := ((29, (Inl.ct Try.prog 64 64 89 fA_p_wire_Reader_End fR_p_wire_Reader_End fM_p_wire_Reader_End fB_p_wire_Reader_End fE_p_wire_Reader_End [32, 64] (fun x => p_wire_Reader_End x.1 x.2.1 x.2.2))) :: (is3_veillaw10_reads N))
theorem isok4_veillaw10_reads {w0 : World} (N : Nat) (hcs : ∀ x ∈ cs_veillaw10_reads N, SoundAt Try.prog w0 x.1 x.2) (hf21 : SIO_wire_NewReader w0) (hf25 : SIO_p_wire_Reader_Bytes w0) (hf23 : SIO_p_wire_Reader_Err w0) (hf22 : SIO_p_wire_Reader_Number w0) (hf29 : SIO_p_wire_Reader_End w0) : AllOK Try.prog w0 gs_veillaw10_reads 64 (is4_veillaw10_reads N) := allok_cons (one_ct hf29 (by kernel_rfl) rfl) (isok3_veillaw10_reads N hcs hf21 hf25 hf23 hf22 hf29)
noncomputable abbrev is5_veillaw10_reads (N : Nat) : List (FuncId × Inl) := ((14, (inlOf Try.prog (cs_veillaw10_reads N) gs_veillaw10_reads 64 100 (is4_veillaw10_reads N) Try.f14)) :: (is4_veillaw10_reads N))
theorem isok5_veillaw10_reads {w0 : World} (N : Nat) (hcs : ∀ x ∈ cs_veillaw10_reads N, SoundAt Try.prog w0 x.1 x.2) (hf21 : SIO_wire_NewReader w0) (hf25 : SIO_p_wire_Reader_Bytes w0) (hf23 : SIO_p_wire_Reader_Err w0) (hf22 : SIO_p_wire_Reader_Number w0) (hf29 : SIO_p_wire_Reader_End w0) : AllOK Try.prog w0 gs_veillaw10_reads 64 (is5_veillaw10_reads N) := allok_cons (one_of hcs (isok4_veillaw10_reads N hcs hf21 hf25 hf23 hf22 hf29) Try.func14 (by kernel_rfl) (by kernel_rfl)) (isok4_veillaw10_reads N hcs hf21 hf25 hf23 hf22 hf29)
noncomputable abbrev is_veillaw10_reads (N : Nat) : List (FuncId × Inl) := (is5_veillaw10_reads N)
theorem isok_veillaw10_reads {w0 : World} (N : Nat) (hcs : ∀ x ∈ cs_veillaw10_reads N, SoundAt Try.prog w0 x.1 x.2) (hf21 : SIO_wire_NewReader w0) (hf25 : SIO_p_wire_Reader_Bytes w0) (hf23 : SIO_p_wire_Reader_Err w0) (hf22 : SIO_p_wire_Reader_Number w0) (hf29 : SIO_p_wire_Reader_End w0) : AllOK Try.prog w0 gs_veillaw10_reads 64 (is_veillaw10_reads N) := (isok5_veillaw10_reads N hcs hf21 hf25 hf23 hf22 hf29)
def veillaw10_reads_l0_H : Fm ((List ((Bool × Int × List (Int))) × Int × Unit × Unit × Int)) (((Bool × (Nat × Nat × Nat) × Int) × (Nat × List Int))) := ⟨(.cons 0 (.dvw 32 38 (.agg (.cons (.tc .bool) (.cons (.tc (.int .u64)) (.row (.tc (.int .u8)) 5))))) (.cons 2 (.int .i64) (.cons 6 (.lit (.bool false)) (.cons 7 (.lit (.ptr 156 [] 53)) (.one 8 (.int .i64)))))), (.cons 156 (.agg (.cons .bool (.cons (.gpw 157 5) (.one (.int .i64))))) (.one 157 (.lst .u8)))⟩
def veillaw10_reads_l0_O : Fm ((Int × Unit)) (((Bool × (Nat × Nat × Nat) × Int) × (Nat × List Int))) := ⟨(.cons 2 (.int .i64) (.one 7 (.lit (.ptr 156 [] 53)))), (.cons 156 (.agg (.cons .bool (.cons (.gpw 157 5) (.one (.int .i64))))) (.one 157 (.lst .u8)))⟩
def veillaw10_reads_l0_T : Fm (Unit) (Unit) := ⟨(.one 6 (.lit (.bool false))), .nil⟩
noncomputable def ls_veillaw10_reads (N : Nat) : List (Nat × Lf) := [(0, loopCt veillaw10_reads_l0_H veillaw10_reads_l0_O veillaw10_reads_l0_T 162 (veillaw10_reads_l0 N) N)]
theorem veillaw10_reads_l0_step (N : Nat) : StepIs Try.prog (cxIn Try.f20 (cs_veillaw10_reads N) gs_veillaw10_reads 64 (is_veillaw10_reads N)) (ls_veillaw10_reads N) Try.f20 0 162 veillaw10_reads_l0_H veillaw10_reads_l0_O veillaw10_reads_l0_T (veillaw10_reads_l0 N) := by
  intro v; kernel_rfl
theorem r_veillaw10_reads (N : Nat) : IoRunIs Try.prog (cs_veillaw10_reads N) gs_veillaw10_reads 64 (is_veillaw10_reads N) (ls_veillaw10_reads N) Try.f20 88 fA_veillaw10_reads fR_veillaw10_reads fM_veillaw10_reads fB_veillaw10_reads fE_veillaw10_reads [33] (fun x => veillaw10_reads N x.1 x.2.1 x.2.2) := by
  intro x; kernel_rfl
theorem s_veillaw10_reads {w0 : World} (N : Nat)  (hcs : ∀ x ∈ cs_veillaw10_reads N, SoundAt Try.prog w0 x.1 x.2) (hf21 : SIO_wire_NewReader w0) (hf25 : SIO_p_wire_Reader_Bytes w0) (hf23 : SIO_p_wire_Reader_Err w0) (hf22 : SIO_p_wire_Reader_Number w0) (hf29 : SIO_p_wire_Reader_End w0) : SIO_veillaw10_reads w0 N := by
  have L0 : ∀ w : Base, w.g = w0 → ∀ ρk, LoopOKX Try.prog (cxIn Try.f20 (cs_veillaw10_reads N) gs_veillaw10_reads 64 (is_veillaw10_reads N)) w (Kp [33] ρk) 0 (.loop (loopBody Try.f20 0)) (loopCt veillaw10_reads_l0_H veillaw10_reads_l0_O veillaw10_reads_l0_T 162 (veillaw10_reads_l0 N) N) :=
    loop_printedK hcs (isok_veillaw10_reads N hcs hf21 hf25 hf23 hf22 hf29) (ls := ls_veillaw10_reads N) (n := 100) (by kernel_rfl) (veillaw10_reads_l0_step N) N fun w hw ρk => loopsOK_list (lp_no (by kernel_rfl) lp_nil)
  exact io_printed hcs (glob_nil _ _) (isok_veillaw10_reads N hcs hf21 hf25 hf23 hf22 hf29) Try.func20 (by kernel_rfl) (by kernel_rfl) (fun w hw ρk => loopsOK_list (lp_yes (L0 w hw ρk) (by kernel_rfl) lp_nil)) (by kernel_rfl) (r_veillaw10_reads N)
theorem k_veillaw10_reads {w0 : World} (N : Nat)  : SIO_veillaw10_reads w0 N :=
  s_veillaw10_reads N cs_nil (k_wire_NewReader) (k_p_wire_Reader_Bytes) (k_p_wire_Reader_Err) (k_p_wire_Reader_Number) (k_p_wire_Reader_End)

def fA_veillaw10_WireBack : Ag ((List ((Bool × Int × List (Int))) × Int)) := (.cons (.dvw 32 38 (.agg (.cons (.tc .bool) (.cons (.tc (.int .u64)) (.row (.tc (.int .u8)) 5))))) (.one (.int .i64)))
def fR_veillaw10_WireBack : Ent (Unit) := .nil
def fM_veillaw10_WireBack : Ent (Unit) := .nil
def fB_veillaw10_WireBack : Pt (Bool) := .bool
def fE_veillaw10_WireBack : Ent (Unit) := .nil
abbrev SIO_veillaw10_WireBack (w0 : World) (N : Nat) : Prop := SoundIo Try.prog w0 5 64 88 fA_veillaw10_WireBack fR_veillaw10_WireBack fM_veillaw10_WireBack fB_veillaw10_WireBack fE_veillaw10_WireBack [] (fun x => veillaw10_WireBack N x.1 x.2.1 x.2.2)
def cs_veillaw10_WireBack (N : Nat) : List (FuncId × Ct) := [(15, (uct (ct_wire_AppendNumber_nil N) (ct_wire_AppendNumber N))), (19, (ct_veillaw10_live N))]
def gs_veillaw10_WireBack : List Gv := []
noncomputable abbrev is0_veillaw10_WireBack (N : Nat) : List (FuncId × Inl) := ((20, (Inl.ct Try.prog 64 64 88 fA_veillaw10_reads fR_veillaw10_reads fM_veillaw10_reads fB_veillaw10_reads fE_veillaw10_reads [33] (fun x => veillaw10_reads N x.1 x.2.1 x.2.2))) :: [])
theorem isok0_veillaw10_WireBack {w0 : World} (N : Nat) (hcs : ∀ x ∈ cs_veillaw10_WireBack N, SoundAt Try.prog w0 x.1 x.2) (hf20 : SIO_veillaw10_reads w0 N) : AllOK Try.prog w0 gs_veillaw10_WireBack 64 (is0_veillaw10_WireBack N) := allok_cons (one_ct hf20 (by kernel_rfl) rfl) allok_nil
noncomputable abbrev is1_veillaw10_WireBack (N : Nat) : List (FuncId × Inl) := ((16, (inlOf Try.prog (cs_veillaw10_WireBack N) gs_veillaw10_WireBack 64 100 (is0_veillaw10_WireBack N) Try.f16)) :: (is0_veillaw10_WireBack N))
theorem isok1_veillaw10_WireBack {w0 : World} (N : Nat) (hcs : ∀ x ∈ cs_veillaw10_WireBack N, SoundAt Try.prog w0 x.1 x.2) (hf20 : SIO_veillaw10_reads w0 N) : AllOK Try.prog w0 gs_veillaw10_WireBack 64 (is1_veillaw10_WireBack N) := allok_cons (one_of hcs (isok0_veillaw10_WireBack N hcs hf20) Try.func16 (by kernel_rfl) (by kernel_rfl)) (isok0_veillaw10_WireBack N hcs hf20)
noncomputable abbrev is_veillaw10_WireBack (N : Nat) : List (FuncId × Inl) := (is1_veillaw10_WireBack N)
theorem isok_veillaw10_WireBack {w0 : World} (N : Nat) (hcs : ∀ x ∈ cs_veillaw10_WireBack N, SoundAt Try.prog w0 x.1 x.2) (hf20 : SIO_veillaw10_reads w0 N) : AllOK Try.prog w0 gs_veillaw10_WireBack 64 (is_veillaw10_WireBack N) := (isok1_veillaw10_WireBack N hcs hf20)
def veillaw10_WireBack_l0_H : Fm ((List ((Bool × Int × List (Int))) × Int × Unit × Nat × Int)) ((Nat × List Int)) := ⟨(.cons 0 (.dvw 32 38 (.agg (.cons (.tc .bool) (.cons (.tc (.int .u64)) (.row (.tc (.int .u8)) 5))))) (.cons 1 (.int .i64) (.cons 4 (.lit (.bool false)) (.cons 5 (.gsw 64 5) (.one 6 (.int .i64)))))), (.one 64 (.lst .u8))⟩
def veillaw10_WireBack_l0_O : Fm ((List ((Bool × Int × List (Int))) × Int × Nat)) ((Nat × List Int)) := ⟨(.cons 0 (.dvw 32 38 (.agg (.cons (.tc .bool) (.cons (.tc (.int .u64)) (.row (.tc (.int .u8)) 5))))) (.cons 1 (.int .i64) (.one 5 (.gsw 64 5)))), (.one 64 (.lst .u8))⟩
def veillaw10_WireBack_l0_T : Fm (Unit) (Unit) := ⟨.nil, .nil⟩
noncomputable def ls_veillaw10_WireBack (N : Nat) : List (Nat × Lf) := [(0, loopCt veillaw10_WireBack_l0_H veillaw10_WireBack_l0_O veillaw10_WireBack_l0_T 68 (veillaw10_WireBack_l0 N) N)]
theorem veillaw10_WireBack_l0_step (N : Nat) : StepIs Try.prog (cxIn Try.f5 (cs_veillaw10_WireBack N) gs_veillaw10_WireBack 64 (is_veillaw10_WireBack N)) (ls_veillaw10_WireBack N) Try.f5 0 68 veillaw10_WireBack_l0_H veillaw10_WireBack_l0_O veillaw10_WireBack_l0_T (veillaw10_WireBack_l0 N) := by
  intro v; kernel_rfl
theorem r_veillaw10_WireBack (N : Nat) : IoRunIs Try.prog (cs_veillaw10_WireBack N) gs_veillaw10_WireBack 64 (is_veillaw10_WireBack N) (ls_veillaw10_WireBack N) Try.f5 88 fA_veillaw10_WireBack fR_veillaw10_WireBack fM_veillaw10_WireBack fB_veillaw10_WireBack fE_veillaw10_WireBack [] (fun x => veillaw10_WireBack N x.1 x.2.1 x.2.2) := by
  intro x; kernel_rfl
theorem s_veillaw10_WireBack {w0 : World} (N : Nat)  (hcs : ∀ x ∈ cs_veillaw10_WireBack N, SoundAt Try.prog w0 x.1 x.2) (hf20 : SIO_veillaw10_reads w0 N) : SIO_veillaw10_WireBack w0 N := by
  have L0 : ∀ w : Base, w.g = w0 → ∀ ρk, LoopOKX Try.prog (cxIn Try.f5 (cs_veillaw10_WireBack N) gs_veillaw10_WireBack 64 (is_veillaw10_WireBack N)) w (Kp [] ρk) 0 (.loop (loopBody Try.f5 0)) (loopCt veillaw10_WireBack_l0_H veillaw10_WireBack_l0_O veillaw10_WireBack_l0_T 68 (veillaw10_WireBack_l0 N) N) :=
    loop_printedK hcs (isok_veillaw10_WireBack N hcs hf20) (ls := ls_veillaw10_WireBack N) (n := 100) (by kernel_rfl) (veillaw10_WireBack_l0_step N) N fun w hw ρk => loopsOK_list (lp_no (by kernel_rfl) lp_nil)
  exact io_printed hcs (glob_nil _ _) (isok_veillaw10_WireBack N hcs hf20) Try.func5 (by kernel_rfl) (by kernel_rfl) (fun w hw ρk => loopsOK_list (lp_yes (L0 w hw ρk) (by kernel_rfl) lp_nil)) (by kernel_rfl) (r_veillaw10_WireBack N)
theorem k_veillaw10_WireBack {w0 : World} (N : Nat)  : SIO_veillaw10_WireBack w0 N :=
  s_veillaw10_WireBack N (cs_cons (sound_uct (k_wire_AppendNumber_nil N) (k_wire_AppendNumber N)) (cs_cons (k_veillaw10_live N) cs_nil)) (k_veillaw10_reads N)

end Go.Vx
