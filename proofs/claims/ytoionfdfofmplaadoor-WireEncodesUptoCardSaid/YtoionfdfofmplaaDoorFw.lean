import Derived.Test.YtoionfdfofmplaaDoorFp
import Derived.Test.YtoionfdfofmplaaDoorProg
import Derived.Test.YtoionfdfofmplaaDoorVxZ2
set_option autoImplicit false
set_option linter.unusedVariables false
set_option linter.unusedSimpArgs false
namespace Go.Vx
open Go Go.Proofs

def ct_bits_Add64 : Ct := fct (.cons (.int .u64) (.cons (.int .u64) (.one (.int .u64)))) (.tup (.cons (.int .u64) (.one (.int .u64)))) fun x => bits_Add64 x.1 x.2.1 x.2.2

theorem k_bits_Add64 {w0 : World} : SoundAt Tryd.prog w0 59 ct_bits_Add64 :=
  sound_add64 Tryd.func59 (by kernel_rfl) (by kernel_rfl) (by kernel_rfl) (by kernel_rfl)

def ct_bits_Sub64 : Ct := fct (.cons (.int .u64) (.cons (.int .u64) (.one (.int .u64)))) (.tup (.cons (.int .u64) (.one (.int .u64)))) fun x => bits_Sub64 x.1 x.2.1 x.2.2

theorem k_bits_Sub64 {w0 : World} : SoundAt Tryd.prog w0 76 ct_bits_Sub64 :=
  sound_sub64 Tryd.func76 (by kernel_rfl) (by kernel_rfl) (by kernel_rfl) (by kernel_rfl)

abbrev A_bits_Mul64 : Ag ((Int × Int)) := (.cons (.int .u64) (.one (.int .u64)))
abbrev B_bits_Mul64 : Pt ((Int × Int)) := (.tup (.cons (.int .u64) (.one (.int .u64))))
def ct_bits_Mul64 : Ct := tct A_bits_Mul64 B_bits_Mul64 fun x => bits_Mul64 x.1 x.2
def cs_bits_Mul64 : List (FuncId × Ct) := []
def gs_bits_Mul64 : List Gv := []
noncomputable def ls_bits_Mul64 : List (Nat × Lf) := []
theorem r_bits_Mul64 : RunIs Tryd.prog (cs_bits_Mul64) gs_bits_Mul64 0 (ls_bits_Mul64) Tryd.f58 A_bits_Mul64 B_bits_Mul64 (fun x => some (bits_Mul64 x.1 x.2)) := by
  intro x; kernel_rfl
theorem s_bits_Mul64 {w0 : World}  (hcs : ∀ x ∈ cs_bits_Mul64, SoundAt Tryd.prog w0 x.1 x.2) : SoundAt Tryd.prog w0 58 ct_bits_Mul64 := by
  exact sound_tct (fn_printed hcs (glob_nil _ _) Tryd.func58 (by kernel_rfl) (by kernel_rfl) (S := 0) (fun w _ => loopsOK_nil _) (fun _ => rfl) (r_bits_Mul64)) fun _ _ => rfl
theorem k_bits_Mul64 {w0 : World}  : SoundAt Tryd.prog w0 58 ct_bits_Mul64 :=
  s_bits_Mul64 cs_nil

abbrev A_scalar_minus : Ag ((List Int × List Int)) := (.cons (.ints .u64 4) (.one (.ints .u64 4)))
abbrev B_scalar_minus : Pt ((List Int × Int)) := (.tup (.cons (.ints .u64 4) (.one (.int .u64))))
def ct_scalar_minus : Ct := fct A_scalar_minus B_scalar_minus fun x => scalar_minus x.1 x.2
def cs_scalar_minus : List (FuncId × Ct) := [(76, ct_bits_Sub64)]
def gs_scalar_minus : List Gv := []
noncomputable def ls_scalar_minus : List (Nat × Lf) := []
theorem r_scalar_minus : RunIs Tryd.prog (cs_scalar_minus) gs_scalar_minus 0 (ls_scalar_minus) Tryd.f60 A_scalar_minus B_scalar_minus (fun x => scalar_minus x.1 x.2) := by
  intro x; kernel_rfl
theorem s_scalar_minus {w0 : World}  (hcs : ∀ x ∈ cs_scalar_minus, SoundAt Tryd.prog w0 x.1 x.2) : SoundAt Tryd.prog w0 60 ct_scalar_minus := by
  exact fn_printed hcs (glob_nil _ _) Tryd.func60 (by kernel_rfl) (by kernel_rfl) (S := 0) (fun w _ => loopsOK_nil _) (fun _ => rfl) (r_scalar_minus)
theorem k_scalar_minus {w0 : World}  : SoundAt Tryd.prog w0 60 ct_scalar_minus :=
  s_scalar_minus (cs_cons (k_bits_Sub64) cs_nil)

abbrev A_scalar_plus : Ag ((List Int × List Int)) := (.cons (.ints .u64 4) (.one (.ints .u64 4)))
abbrev B_scalar_plus : Pt ((List Int × Int)) := (.tup (.cons (.ints .u64 4) (.one (.int .u64))))
def ct_scalar_plus : Ct := fct A_scalar_plus B_scalar_plus fun x => scalar_plus x.1 x.2
def cs_scalar_plus : List (FuncId × Ct) := [(59, ct_bits_Add64)]
def gs_scalar_plus : List Gv := []
noncomputable def ls_scalar_plus : List (Nat × Lf) := []
theorem r_scalar_plus : RunIs Tryd.prog (cs_scalar_plus) gs_scalar_plus 0 (ls_scalar_plus) Tryd.f61 A_scalar_plus B_scalar_plus (fun x => scalar_plus x.1 x.2) := by
  intro x; kernel_rfl
theorem s_scalar_plus {w0 : World}  (hcs : ∀ x ∈ cs_scalar_plus, SoundAt Tryd.prog w0 x.1 x.2) : SoundAt Tryd.prog w0 61 ct_scalar_plus := by
  exact fn_printed hcs (glob_nil _ _) Tryd.func61 (by kernel_rfl) (by kernel_rfl) (S := 0) (fun w _ => loopsOK_nil _) (fun _ => rfl) (r_scalar_plus)
theorem k_scalar_plus {w0 : World}  : SoundAt Tryd.prog w0 61 ct_scalar_plus :=
  s_scalar_plus (cs_cons (k_bits_Add64) cs_nil)

abbrev A_scalar_choose : Ag ((Int × List Int × List Int)) := (.cons (.int .u64) (.cons (.ints .u64 4) (.one (.ints .u64 4))))
abbrev B_scalar_choose : Pt (List Int) := (.ints .u64 4)
def ct_scalar_choose : Ct := tct A_scalar_choose B_scalar_choose fun x => scalar_choose x.1 x.2.1 x.2.2
def cs_scalar_choose : List (FuncId × Ct) := []
def gs_scalar_choose : List Gv := []
noncomputable def ls_scalar_choose : List (Nat × Lf) := []
theorem r_scalar_choose : RunIs Tryd.prog (cs_scalar_choose) gs_scalar_choose 0 (ls_scalar_choose) Tryd.f63 A_scalar_choose B_scalar_choose (fun x => some (scalar_choose x.1 x.2.1 x.2.2)) := by
  intro x; kernel_rfl
theorem s_scalar_choose {w0 : World}  (hcs : ∀ x ∈ cs_scalar_choose, SoundAt Tryd.prog w0 x.1 x.2) : SoundAt Tryd.prog w0 63 ct_scalar_choose := by
  exact sound_tct (fn_printed hcs (glob_nil _ _) Tryd.func63 (by kernel_rfl) (by kernel_rfl) (S := 0) (fun w _ => loopsOK_nil _) (fun _ => rfl) (r_scalar_choose)) fun _ _ => rfl
theorem k_scalar_choose {w0 : World}  : SoundAt Tryd.prog w0 63 ct_scalar_choose :=
  s_scalar_choose cs_nil

abbrev A_scalar_lower : Ag (List Int) := (.one (.ints .u64 4))
abbrev B_scalar_lower : Pt (List Int) := (.ints .u64 4)
def ct_scalar_lower : Ct := fct A_scalar_lower B_scalar_lower fun x => scalar_lower x
def cs_scalar_lower : List (FuncId × Ct) := [(60, ct_scalar_minus), (63, ct_scalar_choose)]
def gs_scalar_lower : List Gv := [⟨0, 25, (.agg [(.ints .u64 4 [6346243789798364141, 1503914060200516822, 0, 1152921504606846976]), (.ints .u64 4 [15486807595281847581, 14334777244411350896, 18446744073709551614, 1152921504606846975]), (.ints .u64 4 [11819153939886771969, 14991950615390032711, 14910419812499177061, 259310039853996605]), (.ints .u64 4 [6346243789798364139, 1503914060200516822, 0, 1152921504606846976])])⟩]
noncomputable def ls_scalar_lower : List (Nat × Lf) := []
theorem r_scalar_lower : RunIs Tryd.prog (cs_scalar_lower) gs_scalar_lower 0 (ls_scalar_lower) Tryd.f62 A_scalar_lower B_scalar_lower (fun x => scalar_lower x) := by
  intro x; kernel_rfl
theorem s_scalar_lower {w0 : World}  (hcs : ∀ x ∈ cs_scalar_lower, SoundAt Tryd.prog w0 x.1 x.2) (hg : GlobOK Tryd.prog w0 gs_scalar_lower) : SoundAt Tryd.prog w0 62 ct_scalar_lower := by
  exact fn_printed hcs hg Tryd.func62 (by kernel_rfl) (by kernel_rfl) (S := 0) (fun w _ => loopsOK_nil _) (fun _ => rfl) (r_scalar_lower)
theorem k_scalar_lower {w0 : World}  (hg_scalar_lower : GlobOK Tryd.prog w0 gs_scalar_lower) : SoundAt Tryd.prog w0 62 ct_scalar_lower :=
  s_scalar_lower (cs_cons (k_scalar_minus) (cs_cons (k_scalar_choose) cs_nil)) hg_scalar_lower

abbrev A_scalar_Scalar_Least : Ag (List Int) := (.one (.ints .u64 4))
abbrev B_scalar_Scalar_Least : Pt (List Int) := (.ints .u64 4)
def ct_scalar_Scalar_Least : Ct := fct A_scalar_Scalar_Least B_scalar_Scalar_Least fun x => scalar_Scalar_Least x
def cs_scalar_Scalar_Least : List (FuncId × Ct) := [(58, ct_bits_Mul64), (59, ct_bits_Add64), (60, ct_scalar_minus), (61, ct_scalar_plus), (62, ct_scalar_lower), (63, ct_scalar_choose)]
def gs_scalar_Scalar_Least : List Gv := [⟨0, 25, (.agg [(.ints .u64 4 [6346243789798364141, 1503914060200516822, 0, 1152921504606846976]), (.ints .u64 4 [15486807595281847581, 14334777244411350896, 18446744073709551614, 1152921504606846975]), (.ints .u64 4 [11819153939886771969, 14991950615390032711, 14910419812499177061, 259310039853996605]), (.ints .u64 4 [6346243789798364139, 1503914060200516822, 0, 1152921504606846976])])⟩]
noncomputable def ls_scalar_Scalar_Least : List (Nat × Lf) := []
theorem r_scalar_Scalar_Least : RunIs Tryd.prog (cs_scalar_Scalar_Least) gs_scalar_Scalar_Least 0 (ls_scalar_Scalar_Least) Tryd.f49 A_scalar_Scalar_Least B_scalar_Scalar_Least (fun x => scalar_Scalar_Least x) := by
  intro x; kernel_rfl
theorem s_scalar_Scalar_Least {w0 : World}  (hcs : ∀ x ∈ cs_scalar_Scalar_Least, SoundAt Tryd.prog w0 x.1 x.2) (hg : GlobOK Tryd.prog w0 gs_scalar_Scalar_Least) : SoundAt Tryd.prog w0 49 ct_scalar_Scalar_Least := by
  exact fn_printed hcs hg Tryd.func49 (by kernel_rfl) (by kernel_rfl) (S := 0) (fun w _ => loopsOK_nil _) (fun _ => rfl) (r_scalar_Scalar_Least)
theorem k_scalar_Scalar_Least {w0 : World}  (hg_scalar_lower : GlobOK Tryd.prog w0 gs_scalar_lower) (hg_scalar_Scalar_Least : GlobOK Tryd.prog w0 gs_scalar_Scalar_Least) : SoundAt Tryd.prog w0 49 ct_scalar_Scalar_Least :=
  s_scalar_Scalar_Least (cs_cons (k_bits_Mul64) (cs_cons (k_bits_Add64) (cs_cons (k_scalar_minus) (cs_cons (k_scalar_plus) (cs_cons (k_scalar_lower hg_scalar_lower) (cs_cons (k_scalar_choose) cs_nil)))))) hg_scalar_Scalar_Least

abbrev A_scalar_Scalar_Encode : Ag (List Int) := (.one (.ints .u64 4))
abbrev B_scalar_Scalar_Encode : Pt (List Int) := (.ints .u8 32)
def ct_scalar_Scalar_Encode (N : Nat) : Ct := fct A_scalar_Scalar_Encode B_scalar_Scalar_Encode fun x => scalar_Scalar_Encode N x
def cs_scalar_Scalar_Encode (N : Nat) : List (FuncId × Ct) := [(49, ct_scalar_Scalar_Least)]
def gs_scalar_Scalar_Encode : List Gv := []
def scalar_Scalar_Encode_l0_H : Fm ((Unit × Unit × Unit × Int)) ((List Int × Unit × List Int)) := ⟨(.cons 1 (.lit (.ptr 0 [] 24)) (.cons 2 (.lit (.ptr 1 [] 82)) (.cons 3 (.lit (.ptr 5 [] 82)) (.one 7 (.int .i64))))), (.cons 0 (.ints .u64 4) (.cons 1 (.lit (.ints .u8 32 [0, 0, 0, 0, 0, 0, 0, 0, 0, 0, 0, 0, 0, 0, 0, 0, 0, 0, 0, 0, 0, 0, 0, 0, 0, 0, 0, 0, 0, 0, 0, 0])) (.one 5 (.ints .u8 32))))⟩
def scalar_Scalar_Encode_l0_O : Fm ((Unit × Unit)) ((Unit × List Int)) := ⟨(.cons 2 (.lit (.ptr 1 [] 82)) (.one 3 (.lit (.ptr 5 [] 82)))), (.cons 1 (.lit (.ints .u8 32 [0, 0, 0, 0, 0, 0, 0, 0, 0, 0, 0, 0, 0, 0, 0, 0, 0, 0, 0, 0, 0, 0, 0, 0, 0, 0, 0, 0, 0, 0, 0, 0])) (.one 5 (.ints .u8 32)))⟩
def scalar_Scalar_Encode_l0_T : Fm (Unit) (Unit) := ⟨.nil, .nil⟩
noncomputable def ls_scalar_Scalar_Encode (N : Nat) : List (Nat × Lf) := [(0, loopCt scalar_Scalar_Encode_l0_H scalar_Scalar_Encode_l0_O scalar_Scalar_Encode_l0_T 7 (scalar_Scalar_Encode_l0 N) N)]
theorem scalar_Scalar_Encode_l0_step (N : Nat) : StepIs Tryd.prog (cxOf Tryd.f29 (cs_scalar_Scalar_Encode N) gs_scalar_Scalar_Encode 0) (ls_scalar_Scalar_Encode N) Tryd.f29 0 7 scalar_Scalar_Encode_l0_H scalar_Scalar_Encode_l0_O scalar_Scalar_Encode_l0_T (scalar_Scalar_Encode_l0 N) := by
  intro v; kernel_rfl
theorem r_scalar_Scalar_Encode (N : Nat) : RunIs Tryd.prog (cs_scalar_Scalar_Encode N) gs_scalar_Scalar_Encode 0 (ls_scalar_Scalar_Encode N) Tryd.f29 A_scalar_Scalar_Encode B_scalar_Scalar_Encode (fun x => scalar_Scalar_Encode N x) := by
  intro x; kernel_rfl
theorem s_scalar_Scalar_Encode {w0 : World} (N : Nat)  (hcs : ∀ x ∈ cs_scalar_Scalar_Encode N, SoundAt Tryd.prog w0 x.1 x.2) : SoundAt Tryd.prog w0 29 (ct_scalar_Scalar_Encode N) := by
  have L0 : ∀ w : Base, w.g = w0 → LoopOK Tryd.prog (cxOf Tryd.f29 (cs_scalar_Scalar_Encode N) gs_scalar_Scalar_Encode 0) w 0 (.loop (loopBody Tryd.f29 0)) (loopCt scalar_Scalar_Encode_l0_H scalar_Scalar_Encode_l0_O scalar_Scalar_Encode_l0_T 7 (scalar_Scalar_Encode_l0 N) N) :=
    loop_printed hcs (ls := ls_scalar_Scalar_Encode N) (n := 100) (by kernel_rfl) (scalar_Scalar_Encode_l0_step N) N fun w hw => loopsOK_list (lp_no (by kernel_rfl) lp_nil)
  exact fn_printed hcs (glob_nil _ _) Tryd.func29 (by kernel_rfl) (by kernel_rfl) (S := 0) (fun w hw => loopsOK_list (lp_yes (L0 w hw) (by kernel_rfl) lp_nil)) (fun _ => rfl) (r_scalar_Scalar_Encode N)
theorem k_scalar_Scalar_Encode {w0 : World} (N : Nat)  (hg_scalar_lower : GlobOK Tryd.prog w0 gs_scalar_lower) (hg_scalar_Scalar_Least : GlobOK Tryd.prog w0 gs_scalar_Scalar_Least) : SoundAt Tryd.prog w0 29 (ct_scalar_Scalar_Encode N) :=
  s_scalar_Scalar_Encode N (cs_cons (k_scalar_Scalar_Least hg_scalar_lower hg_scalar_Scalar_Least) cs_nil)

abbrev A_veilref02_l : Ag (Unit) := .nil
abbrev B_veilref02_l : Pt (List Int) := (.ints .u64 4)
def ct_veilref02_l : Ct := tct A_veilref02_l B_veilref02_l fun x => veilref02_l
def cs_veilref02_l : List (FuncId × Ct) := []
def gs_veilref02_l : List Gv := []
noncomputable def ls_veilref02_l : List (Nat × Lf) := []
theorem r_veilref02_l : RunIs Tryd.prog (cs_veilref02_l) gs_veilref02_l 0 (ls_veilref02_l) Tryd.f77 A_veilref02_l B_veilref02_l (fun x => some (veilref02_l)) := by
  intro x; kernel_rfl
theorem s_veilref02_l {w0 : World}  (hcs : ∀ x ∈ cs_veilref02_l, SoundAt Tryd.prog w0 x.1 x.2) : SoundAt Tryd.prog w0 77 ct_veilref02_l := by
  exact sound_tct (fn_printed hcs (glob_nil _ _) Tryd.func77 (by kernel_rfl) (by kernel_rfl) (S := 0) (fun w _ => loopsOK_nil _) (fun _ => rfl) (r_veilref02_l)) fun _ _ => rfl
theorem k_veilref02_l {w0 : World}  : SoundAt Tryd.prog w0 77 ct_veilref02_l :=
  s_veilref02_l cs_nil

abbrev A_veilref02_below : Ag ((List Int × List Int)) := (.cons (.ints .u64 4) (.one (.ints .u64 4)))
abbrev B_veilref02_below : Pt (Bool) := .bool
def ct_veilref02_below : Ct := tct A_veilref02_below B_veilref02_below fun x => veilref02_below x.1 x.2
def cs_veilref02_below : List (FuncId × Ct) := []
def gs_veilref02_below : List Gv := []
noncomputable def ls_veilref02_below : List (Nat × Lf) := []
theorem r_veilref02_below : RunIs Tryd.prog (cs_veilref02_below) gs_veilref02_below 0 (ls_veilref02_below) Tryd.f80 A_veilref02_below B_veilref02_below (fun x => veilref02_below_o x.1 x.2) := by
  intro x; kernel_rfl
theorem s_veilref02_below {w0 : World}  (hcs : ∀ x ∈ cs_veilref02_below, SoundAt Tryd.prog w0 x.1 x.2) : SoundAt Tryd.prog w0 80 ct_veilref02_below := by
  exact sound_tct (fn_printed hcs (glob_nil _ _) Tryd.func80 (by kernel_rfl) (by kernel_rfl) (S := 0) (fun w _ => loopsOK_nil _) (fun _ => rfl) (r_veilref02_below)) fun _ _ => veilref02_below_tot _ _
theorem k_veilref02_below {w0 : World}  : SoundAt Tryd.prog w0 80 ct_veilref02_below :=
  s_veilref02_below cs_nil

abbrev A_veilref02_plus : Ag ((List Int × List Int)) := (.cons (.ints .u64 4) (.one (.ints .u64 4)))
abbrev B_veilref02_plus : Pt ((List Int × Int)) := (.tup (.cons (.ints .u64 4) (.one (.int .u64))))
def ct_veilref02_plus (N : Nat) : Ct := fct A_veilref02_plus B_veilref02_plus fun x => veilref02_plus N x.1 x.2
def cs_veilref02_plus (N : Nat) : List (FuncId × Ct) := []
def gs_veilref02_plus : List Gv := []
def veilref02_plus_l0_H : Fm ((Unit × Unit × Unit × Unit × Unit × Int × Int)) ((List Int × List Int × Unit × List Int)) := ⟨(.cons 2 (.lit (.ptr 0 [] 58)) (.cons 3 (.lit (.ptr 1 [] 58)) (.cons 4 (.lit (.ptr 2 [] 58)) (.cons 5 (.lit (.int .u64 0)) (.cons 6 (.lit (.ptr 4 [] 58)) (.cons 7 (.int .u64) (.one 8 (.int .i64)))))))), (.cons 0 (.ints .u64 4) (.cons 1 (.ints .u64 4) (.cons 2 (.lit (.ints .u64 4 [0, 0, 0, 0])) (.one 4 (.ints .u64 4)))))⟩
def veilref02_plus_l0_O : Fm ((Unit × Unit × Int)) ((Unit × List Int)) := ⟨(.cons 4 (.lit (.ptr 2 [] 58)) (.cons 6 (.lit (.ptr 4 [] 58)) (.one 7 (.int .u64)))), (.cons 2 (.lit (.ints .u64 4 [0, 0, 0, 0])) (.one 4 (.ints .u64 4)))⟩
def veilref02_plus_l0_T : Fm (Unit) (Unit) := ⟨.nil, .nil⟩
noncomputable def ls_veilref02_plus (N : Nat) : List (Nat × Lf) := [(0, loopCt veilref02_plus_l0_H veilref02_plus_l0_O veilref02_plus_l0_T 7 (veilref02_plus_l0 N) N)]
theorem veilref02_plus_l0_step (N : Nat) : StepIs Tryd.prog (cxOf Tryd.f79 (cs_veilref02_plus N) gs_veilref02_plus 0) (ls_veilref02_plus N) Tryd.f79 0 7 veilref02_plus_l0_H veilref02_plus_l0_O veilref02_plus_l0_T (veilref02_plus_l0 N) := by
  intro v; kernel_rfl
theorem r_veilref02_plus (N : Nat) : RunIs Tryd.prog (cs_veilref02_plus N) gs_veilref02_plus 0 (ls_veilref02_plus N) Tryd.f79 A_veilref02_plus B_veilref02_plus (fun x => veilref02_plus N x.1 x.2) := by
  intro x; kernel_rfl
theorem s_veilref02_plus {w0 : World} (N : Nat)  (hcs : ∀ x ∈ cs_veilref02_plus N, SoundAt Tryd.prog w0 x.1 x.2) : SoundAt Tryd.prog w0 79 (ct_veilref02_plus N) := by
  have L0 : ∀ w : Base, w.g = w0 → LoopOK Tryd.prog (cxOf Tryd.f79 (cs_veilref02_plus N) gs_veilref02_plus 0) w 0 (.loop (loopBody Tryd.f79 0)) (loopCt veilref02_plus_l0_H veilref02_plus_l0_O veilref02_plus_l0_T 7 (veilref02_plus_l0 N) N) :=
    loop_printed hcs (ls := ls_veilref02_plus N) (n := 100) (by kernel_rfl) (veilref02_plus_l0_step N) N fun w hw => loopsOK_list (lp_no (by kernel_rfl) lp_nil)
  exact fn_printed hcs (glob_nil _ _) Tryd.func79 (by kernel_rfl) (by kernel_rfl) (S := 0) (fun w hw => loopsOK_list (lp_yes (L0 w hw) (by kernel_rfl) lp_nil)) (fun _ => rfl) (r_veilref02_plus N)
theorem k_veilref02_plus {w0 : World} (N : Nat)  : SoundAt Tryd.prog w0 79 (ct_veilref02_plus N) :=
  s_veilref02_plus N cs_nil

abbrev A_veilref02_minus : Ag ((List Int × List Int)) := (.cons (.ints .u64 4) (.one (.ints .u64 4)))
abbrev B_veilref02_minus : Pt ((List Int × Int)) := (.tup (.cons (.ints .u64 4) (.one (.int .u64))))
def ct_veilref02_minus (N : Nat) : Ct := fct A_veilref02_minus B_veilref02_minus fun x => veilref02_minus N x.1 x.2
def cs_veilref02_minus (N : Nat) : List (FuncId × Ct) := []
def gs_veilref02_minus : List Gv := []
def veilref02_minus_l0_H : Fm ((Unit × Unit × Unit × Unit × Unit × Int × Int)) ((List Int × List Int × Unit × List Int)) := ⟨(.cons 2 (.lit (.ptr 0 [] 58)) (.cons 3 (.lit (.ptr 1 [] 58)) (.cons 4 (.lit (.ptr 2 [] 58)) (.cons 5 (.lit (.int .u64 0)) (.cons 6 (.lit (.ptr 4 [] 58)) (.cons 7 (.int .u64) (.one 8 (.int .i64)))))))), (.cons 0 (.ints .u64 4) (.cons 1 (.ints .u64 4) (.cons 2 (.lit (.ints .u64 4 [0, 0, 0, 0])) (.one 4 (.ints .u64 4)))))⟩
def veilref02_minus_l0_O : Fm ((Unit × Unit × Int)) ((Unit × List Int)) := ⟨(.cons 4 (.lit (.ptr 2 [] 58)) (.cons 6 (.lit (.ptr 4 [] 58)) (.one 7 (.int .u64)))), (.cons 2 (.lit (.ints .u64 4 [0, 0, 0, 0])) (.one 4 (.ints .u64 4)))⟩
def veilref02_minus_l0_T : Fm (Unit) (Unit) := ⟨.nil, .nil⟩
noncomputable def ls_veilref02_minus (N : Nat) : List (Nat × Lf) := [(0, loopCt veilref02_minus_l0_H veilref02_minus_l0_O veilref02_minus_l0_T 7 (veilref02_minus_l0 N) N)]
theorem veilref02_minus_l0_step (N : Nat) : StepIs Tryd.prog (cxOf Tryd.f78 (cs_veilref02_minus N) gs_veilref02_minus 0) (ls_veilref02_minus N) Tryd.f78 0 7 veilref02_minus_l0_H veilref02_minus_l0_O veilref02_minus_l0_T (veilref02_minus_l0 N) := by
  intro v; kernel_rfl
theorem r_veilref02_minus (N : Nat) : RunIs Tryd.prog (cs_veilref02_minus N) gs_veilref02_minus 0 (ls_veilref02_minus N) Tryd.f78 A_veilref02_minus B_veilref02_minus (fun x => veilref02_minus N x.1 x.2) := by
  intro x; kernel_rfl
theorem s_veilref02_minus {w0 : World} (N : Nat)  (hcs : ∀ x ∈ cs_veilref02_minus N, SoundAt Tryd.prog w0 x.1 x.2) : SoundAt Tryd.prog w0 78 (ct_veilref02_minus N) := by
  have L0 : ∀ w : Base, w.g = w0 → LoopOK Tryd.prog (cxOf Tryd.f78 (cs_veilref02_minus N) gs_veilref02_minus 0) w 0 (.loop (loopBody Tryd.f78 0)) (loopCt veilref02_minus_l0_H veilref02_minus_l0_O veilref02_minus_l0_T 7 (veilref02_minus_l0 N) N) :=
    loop_printed hcs (ls := ls_veilref02_minus N) (n := 100) (by kernel_rfl) (veilref02_minus_l0_step N) N fun w hw => loopsOK_list (lp_no (by kernel_rfl) lp_nil)
  exact fn_printed hcs (glob_nil _ _) Tryd.func78 (by kernel_rfl) (by kernel_rfl) (S := 0) (fun w hw => loopsOK_list (lp_yes (L0 w hw) (by kernel_rfl) lp_nil)) (fun _ => rfl) (r_veilref02_minus N)
theorem k_veilref02_minus {w0 : World} (N : Nat)  : SoundAt Tryd.prog w0 78 (ct_veilref02_minus N) :=
  s_veilref02_minus N cs_nil

abbrev A_veilref02_step : Ag ((List Int × Int)) := (.cons (.ints .u64 4) (.one (.int .u64)))
abbrev B_veilref02_step : Pt (List Int) := (.ints .u64 4)
def ct_veilref02_step (N : Nat) : Ct := fct A_veilref02_step B_veilref02_step fun x => veilref02_step N x.1 x.2
def cs_veilref02_step (N : Nat) : List (FuncId × Ct) := [(77, ct_veilref02_l), (78, (ct_veilref02_minus N)), (79, (ct_veilref02_plus N)), (80, ct_veilref02_below)]
def gs_veilref02_step : List Gv := []
noncomputable def ls_veilref02_step (N : Nat) : List (Nat × Lf) := []
theorem r_veilref02_step (N : Nat) : RunIs Tryd.prog (cs_veilref02_step N) gs_veilref02_step 0 (ls_veilref02_step N) Tryd.f64 A_veilref02_step B_veilref02_step (fun x => veilref02_step N x.1 x.2) := by
  intro x; kernel_rfl
theorem s_veilref02_step {w0 : World} (N : Nat)  (hcs : ∀ x ∈ cs_veilref02_step N, SoundAt Tryd.prog w0 x.1 x.2) : SoundAt Tryd.prog w0 64 (ct_veilref02_step N) := by
  exact fn_printed hcs (glob_nil _ _) Tryd.func64 (by kernel_rfl) (by kernel_rfl) (S := 0) (fun w _ => loopsOK_nil _) (fun _ => rfl) (r_veilref02_step N)
theorem k_veilref02_step {w0 : World} (N : Nat)  : SoundAt Tryd.prog w0 64 (ct_veilref02_step N) :=
  s_veilref02_step N (cs_cons (k_veilref02_l) (cs_cons (k_veilref02_minus N) (cs_cons (k_veilref02_plus N) (cs_cons (k_veilref02_below) cs_nil))))

abbrev A_veilref02_words : Ag (((Nat × List Int) × Unit)) := (.one (.tup (.cons (.lst .u64) (.one (.lit (.clo 22 []))))))
abbrev B_veilref02_words : Pt (List Int) := (.ints .u64 4)
def ct_veilref02_words (N : Nat) : Ct := fct A_veilref02_words B_veilref02_words fun x => veilref02_words N x
def cs_veilref02_words (N : Nat) : List (FuncId × Ct) := [(64, (ct_veilref02_step N))]
def gs_veilref02_words : List Gv := []
def veilref02_words_l0_H : Fm ((Nat × Unit × Unit × Int)) (((Nat × List Int) × Unit × List Int)) := ⟨(.cons 0 (.slw 0 22) (.cons 2 (.lit (.ptr 1 [] 58)) (.cons 3 (.lit (.ptr 2 [] 58)) (.one 4 (.int .i64))))), (.cons 0 (.lst .u64) (.cons 1 (.lit (.ints .u64 4 [0, 0, 0, 0])) (.one 2 (.ints .u64 4))))⟩
def veilref02_words_l0_O : Fm ((Unit × Unit)) ((Unit × List Int)) := ⟨(.cons 2 (.lit (.ptr 1 [] 58)) (.one 3 (.lit (.ptr 2 [] 58)))), (.cons 1 (.lit (.ints .u64 4 [0, 0, 0, 0])) (.one 2 (.ints .u64 4)))⟩
def veilref02_words_l0_T : Fm (Unit) (Unit) := ⟨.nil, .nil⟩
noncomputable def ls_veilref02_words (N : Nat) : List (Nat × Lf) := [(0, loopCt veilref02_words_l0_H veilref02_words_l0_O veilref02_words_l0_T 7 (veilref02_words_l0 N) N)]
theorem veilref02_words_l0_step (N : Nat) : StepIs Tryd.prog (cxOf Tryd.f50 (cs_veilref02_words N) gs_veilref02_words 1) (ls_veilref02_words N) Tryd.f50 0 7 veilref02_words_l0_H veilref02_words_l0_O veilref02_words_l0_T (veilref02_words_l0 N) := by
  intro v; kernel_rfl
theorem r_veilref02_words (N : Nat) : RunIs Tryd.prog (cs_veilref02_words N) gs_veilref02_words 1 (ls_veilref02_words N) Tryd.f50 A_veilref02_words B_veilref02_words (fun x => veilref02_words N x) := by
  intro x; kernel_rfl
theorem s_veilref02_words {w0 : World} (N : Nat)  (hcs : ∀ x ∈ cs_veilref02_words N, SoundAt Tryd.prog w0 x.1 x.2) : SoundAt Tryd.prog w0 50 (ct_veilref02_words N) := by
  have L0 : ∀ w : Base, w.g = w0 → LoopOK Tryd.prog (cxOf Tryd.f50 (cs_veilref02_words N) gs_veilref02_words 1) w 0 (.loop (loopBody Tryd.f50 0)) (loopCt veilref02_words_l0_H veilref02_words_l0_O veilref02_words_l0_T 7 (veilref02_words_l0 N) N) :=
    loop_printed hcs (ls := ls_veilref02_words N) (n := 100) (by kernel_rfl) (veilref02_words_l0_step N) N fun w hw => loopsOK_list (lp_no (by kernel_rfl) lp_nil)
  exact fn_printed hcs (glob_nil _ _) Tryd.func50 (by kernel_rfl) (by kernel_rfl) (S := 1) (fun w hw => loopsOK_list (lp_yes (L0 w hw) (by kernel_rfl) lp_nil)) (fun _ => rfl) (r_veilref02_words N)
theorem k_veilref02_words {w0 : World} (N : Nat)  : SoundAt Tryd.prog w0 50 (ct_veilref02_words N) :=
  s_veilref02_words N (cs_cons (k_veilref02_step N) cs_nil)

abbrev A_veilref02_Least : Ag (List Int) := (.one (.ints .u64 4))
abbrev B_veilref02_Least : Pt (List Int) := (.ints .u64 4)
def ct_veilref02_Least (N : Nat) : Ct := fct A_veilref02_Least B_veilref02_Least fun x => veilref02_Least N x
def cs_veilref02_Least (N : Nat) : List (FuncId × Ct) := [(50, (ct_veilref02_words N))]
def gs_veilref02_Least : List Gv := []
noncomputable def ls_veilref02_Least (N : Nat) : List (Nat × Lf) := []
theorem r_veilref02_Least (N : Nat) : RunIs Tryd.prog (cs_veilref02_Least N) gs_veilref02_Least 0 (ls_veilref02_Least N) Tryd.f32 A_veilref02_Least B_veilref02_Least (fun x => veilref02_Least N x) := by
  intro x; kernel_rfl
theorem s_veilref02_Least {w0 : World} (N : Nat)  (hcs : ∀ x ∈ cs_veilref02_Least N, SoundAt Tryd.prog w0 x.1 x.2) : SoundAt Tryd.prog w0 32 (ct_veilref02_Least N) := by
  exact fn_printed hcs (glob_nil _ _) Tryd.func32 (by kernel_rfl) (by kernel_rfl) (S := 0) (fun w _ => loopsOK_nil _) (fun _ => rfl) (r_veilref02_Least N)
theorem k_veilref02_Least {w0 : World} (N : Nat)  : SoundAt Tryd.prog w0 32 (ct_veilref02_Least N) :=
  s_veilref02_Least N (cs_cons (k_veilref02_words N) cs_nil)

abbrev A_veilref02_Scalar_Encode : Ag (List Int) := (.one (.ints .u64 4))
abbrev B_veilref02_Scalar_Encode : Pt (List Int) := (.ints .u8 32)
def ct_veilref02_Scalar_Encode (N : Nat) : Ct := fct A_veilref02_Scalar_Encode B_veilref02_Scalar_Encode fun x => veilref02_Scalar_Encode N x
def cs_veilref02_Scalar_Encode (N : Nat) : List (FuncId × Ct) := []
def gs_veilref02_Scalar_Encode : List Gv := []
def veilref02_Scalar_Encode_l0_H : Fm ((Unit × Unit × Unit × Int)) ((List Int × Unit × List Int)) := ⟨(.cons 1 (.lit (.ptr 0 [] 58)) (.cons 2 (.lit (.ptr 1 [] 82)) (.cons 3 (.lit (.ptr 2 [] 82)) (.one 4 (.int .i64))))), (.cons 0 (.ints .u64 4) (.cons 1 (.lit (.ints .u8 32 [0, 0, 0, 0, 0, 0, 0, 0, 0, 0, 0, 0, 0, 0, 0, 0, 0, 0, 0, 0, 0, 0, 0, 0, 0, 0, 0, 0, 0, 0, 0, 0])) (.one 2 (.ints .u8 32))))⟩
def veilref02_Scalar_Encode_l0_O : Fm ((Unit × Unit)) ((Unit × List Int)) := ⟨(.cons 2 (.lit (.ptr 1 [] 82)) (.one 3 (.lit (.ptr 2 [] 82)))), (.cons 1 (.lit (.ints .u8 32 [0, 0, 0, 0, 0, 0, 0, 0, 0, 0, 0, 0, 0, 0, 0, 0, 0, 0, 0, 0, 0, 0, 0, 0, 0, 0, 0, 0, 0, 0, 0, 0])) (.one 2 (.ints .u8 32)))⟩
def veilref02_Scalar_Encode_l0_T : Fm (Unit) (Unit) := ⟨.nil, .nil⟩
noncomputable def ls_veilref02_Scalar_Encode (N : Nat) : List (Nat × Lf) := [(0, loopCt veilref02_Scalar_Encode_l0_H veilref02_Scalar_Encode_l0_O veilref02_Scalar_Encode_l0_T 4 (veilref02_Scalar_Encode_l0 N) N)]
theorem veilref02_Scalar_Encode_l0_step (N : Nat) : StepIs Tryd.prog (cxOf Tryd.f41 (cs_veilref02_Scalar_Encode N) gs_veilref02_Scalar_Encode 0) (ls_veilref02_Scalar_Encode N) Tryd.f41 0 4 veilref02_Scalar_Encode_l0_H veilref02_Scalar_Encode_l0_O veilref02_Scalar_Encode_l0_T (veilref02_Scalar_Encode_l0 N) := by
  intro v; kernel_rfl
theorem r_veilref02_Scalar_Encode (N : Nat) : RunIs Tryd.prog (cs_veilref02_Scalar_Encode N) gs_veilref02_Scalar_Encode 0 (ls_veilref02_Scalar_Encode N) Tryd.f41 A_veilref02_Scalar_Encode B_veilref02_Scalar_Encode (fun x => veilref02_Scalar_Encode N x) := by
  intro x; kernel_rfl
theorem s_veilref02_Scalar_Encode {w0 : World} (N : Nat)  (hcs : ∀ x ∈ cs_veilref02_Scalar_Encode N, SoundAt Tryd.prog w0 x.1 x.2) : SoundAt Tryd.prog w0 41 (ct_veilref02_Scalar_Encode N) := by
  have L0 : ∀ w : Base, w.g = w0 → LoopOK Tryd.prog (cxOf Tryd.f41 (cs_veilref02_Scalar_Encode N) gs_veilref02_Scalar_Encode 0) w 0 (.loop (loopBody Tryd.f41 0)) (loopCt veilref02_Scalar_Encode_l0_H veilref02_Scalar_Encode_l0_O veilref02_Scalar_Encode_l0_T 4 (veilref02_Scalar_Encode_l0 N) N) :=
    loop_printed hcs (ls := ls_veilref02_Scalar_Encode N) (n := 100) (by kernel_rfl) (veilref02_Scalar_Encode_l0_step N) N fun w hw => loopsOK_list (lp_no (by kernel_rfl) lp_nil)
  exact fn_printed hcs (glob_nil _ _) Tryd.func41 (by kernel_rfl) (by kernel_rfl) (S := 0) (fun w hw => loopsOK_list (lp_yes (L0 w hw) (by kernel_rfl) lp_nil)) (fun _ => rfl) (r_veilref02_Scalar_Encode N)
theorem k_veilref02_Scalar_Encode {w0 : World} (N : Nat)  : SoundAt Tryd.prog w0 41 (ct_veilref02_Scalar_Encode N) :=
  s_veilref02_Scalar_Encode N cs_nil

abbrev A_veilref07_LineOf : Ag (List Int) := (.one (.ints .u64 4))
abbrev B_veilref07_LineOf : Pt ((Int × (List Int × List Int) × List Int × Unit)) := (.agg (.cons (.int .i64) (.cons (.agg (.one (.agg (.cons (.ints .i64 10) (.one (.ints .i64 10)))))) (.cons (.ints .u64 4) (.one (.lit .nils))))))
def ct_veilref07_LineOf : Ct := tct A_veilref07_LineOf B_veilref07_LineOf fun x => veilref07_LineOf x
def cs_veilref07_LineOf : List (FuncId × Ct) := []
def gs_veilref07_LineOf : List Gv := []
noncomputable def ls_veilref07_LineOf : List (Nat × Lf) := []
theorem r_veilref07_LineOf : RunIs Tryd.prog (cs_veilref07_LineOf) gs_veilref07_LineOf 0 (ls_veilref07_LineOf) Tryd.f31 A_veilref07_LineOf B_veilref07_LineOf (fun x => some (veilref07_LineOf x)) := by
  intro x; kernel_rfl
theorem s_veilref07_LineOf {w0 : World}  (hcs : ∀ x ∈ cs_veilref07_LineOf, SoundAt Tryd.prog w0 x.1 x.2) : SoundAt Tryd.prog w0 31 ct_veilref07_LineOf := by
  exact sound_tct (fn_printed hcs (glob_nil _ _) Tryd.func31 (by kernel_rfl) (by kernel_rfl) (S := 0) (fun w _ => loopsOK_nil _) (fun _ => rfl) (r_veilref07_LineOf)) fun _ _ => rfl
theorem k_veilref07_LineOf {w0 : World}  : SoundAt Tryd.prog w0 31 ct_veilref07_LineOf :=
  s_veilref07_LineOf cs_nil

abbrev A_veillaw10_lines : Ag ((List (List Int) × Unit)) := (.one (.tup (.cons (.vec (.ints .u64 4)) (.one (.lit (.clo 24 []))))))
abbrev B_veillaw10_lines : Pt ((List (List Int) × Unit)) := (.tup (.cons (.vec (.agg (.ints .u64 4))) (.one (.lit (.clo 34 [])))))
def ct_veillaw10_lines (N : Nat) : Ct := fct A_veillaw10_lines B_veillaw10_lines fun x => veillaw10_lines N x
def cs_veillaw10_lines (N : Nat) : List (FuncId × Ct) := []
def gs_veillaw10_lines : List Gv := []
def veillaw10_lines_l0_H : Fm ((Nat × Unit × Nat × Int)) ((List (List Int) × List (List Int))) := ⟨(.cons 0 (.slw 0 24) (.cons 2 (.lit .nils) (.cons 3 (.gsw 1 34) (.one 4 (.int .i64))))), (.cons 0 (.vec (.ints .u64 4)) (.one 1 (.vec (.agg (.ints .u64 4)))))⟩
def veillaw10_lines_l0_O : Fm (Nat) (List (List Int)) := ⟨(.one 3 (.gsw 1 34)), (.one 1 (.vec (.agg (.ints .u64 4))))⟩
def veillaw10_lines_l0_T : Fm (Unit) (Unit) := ⟨.nil, .nil⟩
noncomputable def ls_veillaw10_lines (N : Nat) : List (Nat × Lf) := [(0, loopCt veillaw10_lines_l0_H veillaw10_lines_l0_O veillaw10_lines_l0_T 4 (veillaw10_lines_l0 N) N)]
theorem veillaw10_lines_l0_step (N : Nat) : StepIs Tryd.prog (cxOf Tryd.f30 (cs_veillaw10_lines N) gs_veillaw10_lines 1) (ls_veillaw10_lines N) Tryd.f30 0 4 veillaw10_lines_l0_H veillaw10_lines_l0_O veillaw10_lines_l0_T (veillaw10_lines_l0 N) := by
  intro v; kernel_rfl
theorem r_veillaw10_lines (N : Nat) : RunIs Tryd.prog (cs_veillaw10_lines N) gs_veillaw10_lines 1 (ls_veillaw10_lines N) Tryd.f30 A_veillaw10_lines B_veillaw10_lines (fun x => veillaw10_lines N x) := by
  intro x; kernel_rfl
theorem s_veillaw10_lines {w0 : World} (N : Nat)  (hcs : ∀ x ∈ cs_veillaw10_lines N, SoundAt Tryd.prog w0 x.1 x.2) : SoundAt Tryd.prog w0 30 (ct_veillaw10_lines N) := by
  have L0 : ∀ w : Base, w.g = w0 → LoopOK Tryd.prog (cxOf Tryd.f30 (cs_veillaw10_lines N) gs_veillaw10_lines 1) w 0 (.loop (loopBody Tryd.f30 0)) (loopCt veillaw10_lines_l0_H veillaw10_lines_l0_O veillaw10_lines_l0_T 4 (veillaw10_lines_l0 N) N) :=
    loop_printed hcs (ls := ls_veillaw10_lines N) (n := 100) (by kernel_rfl) (veillaw10_lines_l0_step N) N fun w hw => loopsOK_list (lp_no (by kernel_rfl) lp_nil)
  exact fn_printed hcs (glob_nil _ _) Tryd.func30 (by kernel_rfl) (by kernel_rfl) (S := 1) (fun w hw => loopsOK_list (lp_yes (L0 w hw) (by kernel_rfl) lp_nil)) (fun _ => rfl) (r_veillaw10_lines N)
theorem k_veillaw10_lines {w0 : World} (N : Nat)  : SoundAt Tryd.prog w0 30 (ct_veillaw10_lines N) :=
  s_veillaw10_lines N cs_nil

def fA_veillaw10_WireProof_line : Ag (((List Int × List Int × List Int × List Int) × List Int × List Int × List Int × List (List Int) × List (List Int) × List Int × List Int)) := (.one (.agg (.cons (.agg (.cons (.ints .u64 4) (.cons (.ints .u64 4) (.cons (.ints .u64 4) (.one (.ints .u64 4)))))) (.cons (.ints .u64 4) (.cons (.ints .u64 4) (.cons (.ints .u64 4) (.cons (.dvw 32 24 (.tc (.ints .u64 4))) (.cons (.dvw 33 24 (.tc (.ints .u64 4))) (.cons (.ints .u64 4) (.one (.ints .u64 4)))))))))))
def fR_veillaw10_WireProof_line : Ent (Unit) := .nil
def fM_veillaw10_WireProof_line : Ent (Unit) := .nil
def fB_veillaw10_WireProof_line : Pt ((List Int × List Int × List Int × List Int × List Int × List Int × List Int × Nat × Nat × List Int × List Int)) := (.agg (.cons (.agg (.one (.ints .u64 4))) (.cons (.agg (.one (.ints .u64 4))) (.cons (.agg (.one (.ints .u64 4))) (.cons (.agg (.one (.ints .u64 4))) (.cons (.ints .u64 4) (.cons (.ints .u64 4) (.cons (.ints .u64 4) (.cons (.gsw 64 34) (.cons (.gsw 65 34) (.cons (.ints .u64 4) (.one (.ints .u64 4)))))))))))))
def fE_veillaw10_WireProof_line : Ent ((List (List Int) × List (List Int))) := (.cons 64 (.vec (.agg (.ints .u64 4))) (.one 65 (.vec (.agg (.ints .u64 4)))))
abbrev SIO_veillaw10_WireProof_line (w0 : World) (N : Nat) : Prop := SoundIo Tryd.prog w0 8 64 88 fA_veillaw10_WireProof_line fR_veillaw10_WireProof_line fM_veillaw10_WireProof_line fB_veillaw10_WireProof_line fE_veillaw10_WireProof_line [] (fun x => veillaw10_WireProof_line N x.1 x.2.1 x.2.2)
def cs_veillaw10_WireProof_line (N : Nat) : List (FuncId × Ct) := [(30, (ct_veillaw10_lines N))]
def gs_veillaw10_WireProof_line : List Gv := []
noncomputable abbrev is_veillaw10_WireProof_line (N : Nat) : List (FuncId × Inl) := []
theorem isok_veillaw10_WireProof_line {w0 : World} (N : Nat) (hcs : ∀ x ∈ cs_veillaw10_WireProof_line N, SoundAt Tryd.prog w0 x.1 x.2) : AllOK Tryd.prog w0 gs_veillaw10_WireProof_line 64 (is_veillaw10_WireProof_line N) := allok_nil
noncomputable def ls_veillaw10_WireProof_line (N : Nat) : List (Nat × Lf) := []
theorem r_veillaw10_WireProof_line (N : Nat) : IoRunIs Tryd.prog (cs_veillaw10_WireProof_line N) gs_veillaw10_WireProof_line 64 (is_veillaw10_WireProof_line N) (ls_veillaw10_WireProof_line N) Tryd.f8 88 fA_veillaw10_WireProof_line fR_veillaw10_WireProof_line fM_veillaw10_WireProof_line fB_veillaw10_WireProof_line fE_veillaw10_WireProof_line [] (fun x => veillaw10_WireProof_line N x.1 x.2.1 x.2.2) := by
  intro x; kernel_rfl
theorem s_veillaw10_WireProof_line {w0 : World} (N : Nat)  (hcs : ∀ x ∈ cs_veillaw10_WireProof_line N, SoundAt Tryd.prog w0 x.1 x.2) : SIO_veillaw10_WireProof_line w0 N := by
  exact io_printed hcs (glob_nil _ _) (isok_veillaw10_WireProof_line N hcs) Tryd.func8 (by kernel_rfl) (by kernel_rfl) (fun w _ _ => loopsOK_nil _) (by kernel_rfl) (r_veillaw10_WireProof_line N)
theorem k_veillaw10_WireProof_line {w0 : World} (N : Nat)  : SIO_veillaw10_WireProof_line w0 N :=
  s_veillaw10_WireProof_line N (cs_cons (k_veillaw10_lines N) cs_nil)

def fA_wire_EncodeProof_of_msm_Line : Ag ((List Int × List Int × List Int × List Int × List Int × List Int × List Int × Nat × Nat × List Int × List Int)) := (.one (.agg (.cons (.agg (.one (.ints .u64 4))) (.cons (.agg (.one (.ints .u64 4))) (.cons (.agg (.one (.ints .u64 4))) (.cons (.agg (.one (.ints .u64 4))) (.cons (.ints .u64 4) (.cons (.ints .u64 4) (.cons (.ints .u64 4) (.cons (.slw 32 34) (.cons (.slw 33 34) (.cons (.ints .u64 4) (.one (.ints .u64 4))))))))))))))
def fR_wire_EncodeProof_of_msm_Line : Ent ((List (List Int) × List (List Int))) := (.cons 32 (.vec (.agg (.ints .u64 4))) (.one 33 (.vec (.agg (.ints .u64 4)))))
def fM_wire_EncodeProof_of_msm_Line : Ent (Unit) := .nil
def fB_wire_EncodeProof_of_msm_Line : Pt ((Nat × Int)) := (.tup (.cons (.gsw 64 5) (.one (.int .i64))))
def fE_wire_EncodeProof_of_msm_Line : Ent ((Nat × List Int)) := (.one 64 (.lst .u8))
abbrev SIO_wire_EncodeProof_of_msm_Line (w0 : World) (N : Nat) : Prop := SoundIo Tryd.prog w0 7 64 88 fA_wire_EncodeProof_of_msm_Line fR_wire_EncodeProof_of_msm_Line fM_wire_EncodeProof_of_msm_Line fB_wire_EncodeProof_of_msm_Line fE_wire_EncodeProof_of_msm_Line [32, 33] (fun x => wire_EncodeProof_of_msm_Line N x.1 x.2.1 x.2.2)
def cs_wire_EncodeProof_of_msm_Line (N : Nat) : List (FuncId × Ct) := [(29, (ct_scalar_Scalar_Encode N))]
def gs_wire_EncodeProof_of_msm_Line : List Gv := []
noncomputable abbrev is0_wire_EncodeProof_of_msm_Line (N : Nat) : List (FuncId × Inl) := ((117, (inlOf Tryd.prog (cs_wire_EncodeProof_of_msm_Line N) gs_wire_EncodeProof_of_msm_Line 64 100 [] Tryd.f117)) :: [])
theorem isok0_wire_EncodeProof_of_msm_Line {w0 : World} (N : Nat) (hcs : ∀ x ∈ cs_wire_EncodeProof_of_msm_Line N, SoundAt Tryd.prog w0 x.1 x.2) : AllOK Tryd.prog w0 gs_wire_EncodeProof_of_msm_Line 64 (is0_wire_EncodeProof_of_msm_Line N) := allok_cons (one_of hcs allok_nil Tryd.func117 (by kernel_rfl) (by kernel_rfl)) allok_nil
noncomputable abbrev is1_wire_EncodeProof_of_msm_Line (N : Nat) : List (FuncId × Inl) := ((28, (inlOf Tryd.prog (cs_wire_EncodeProof_of_msm_Line N) gs_wire_EncodeProof_of_msm_Line 64 100 (is0_wire_EncodeProof_of_msm_Line N) Tryd.f28)) :: (is0_wire_EncodeProof_of_msm_Line N))
theorem isok1_wire_EncodeProof_of_msm_Line {w0 : World} (N : Nat) (hcs : ∀ x ∈ cs_wire_EncodeProof_of_msm_Line N, SoundAt Tryd.prog w0 x.1 x.2) : AllOK Tryd.prog w0 gs_wire_EncodeProof_of_msm_Line 64 (is1_wire_EncodeProof_of_msm_Line N) := allok_cons (one_of hcs (isok0_wire_EncodeProof_of_msm_Line N hcs) Tryd.func28 (by kernel_rfl) (by kernel_rfl)) (isok0_wire_EncodeProof_of_msm_Line N hcs)
noncomputable abbrev is_wire_EncodeProof_of_msm_Line (N : Nat) : List (FuncId × Inl) := (is1_wire_EncodeProof_of_msm_Line N)
theorem isok_wire_EncodeProof_of_msm_Line {w0 : World} (N : Nat) (hcs : ∀ x ∈ cs_wire_EncodeProof_of_msm_Line N, SoundAt Tryd.prog w0 x.1 x.2) : AllOK Tryd.prog w0 gs_wire_EncodeProof_of_msm_Line 64 (is_wire_EncodeProof_of_msm_Line N) := (isok1_wire_EncodeProof_of_msm_Line N hcs)
def wire_EncodeProof_of_msm_Line_l4_H : Fm ((Unit × Unit × Unit × Unit × Unit × Nat × Int × Int)) ((List (List Int) × List (List Int) × (List Int × List Int × List Int × List Int × List Int × List Int × List Int × Nat × Nat × List Int × List Int) × Nat × (Nat × List Int))) := ⟨(.cons 1 (.lit (.ptr 88 [] 37)) (.cons 2 (.lit .nils) (.cons 3 (.lit (.int .i64 0)) (.cons 4 (.lit (.ptr 104 [] 29)) (.cons 5 (.lit (.clo 28 [(.ptr 104 [] 29)])) (.cons 60 (.slw 32 34) (.cons 61 (.int .i64) (.one 62 (.int .i64))))))))), (.cons 32 (.vec (.agg (.ints .u64 4))) (.cons 33 (.vec (.agg (.ints .u64 4))) (.cons 88 (.agg (.cons (.agg (.one (.ints .u64 4))) (.cons (.agg (.one (.ints .u64 4))) (.cons (.agg (.one (.ints .u64 4))) (.cons (.agg (.one (.ints .u64 4))) (.cons (.ints .u64 4) (.cons (.ints .u64 4) (.cons (.ints .u64 4) (.cons (.slw 32 34) (.cons (.slw 33 34) (.cons (.ints .u64 4) (.one (.ints .u64 4))))))))))))) (.cons 104 (.gsw 303 5) (.one 303 (.lst .u8))))))⟩
def wire_EncodeProof_of_msm_Line_l4_O : Fm ((Unit × Unit × Unit)) ((List (List Int) × List (List Int) × (List Int × List Int × List Int × List Int × List Int × List Int × List Int × Nat × Nat × List Int × List Int) × Nat × (Nat × List Int))) := ⟨(.cons 1 (.lit (.ptr 88 [] 37)) (.cons 4 (.lit (.ptr 104 [] 29)) (.one 5 (.lit (.clo 28 [(.ptr 104 [] 29)]))))), (.cons 32 (.vec (.agg (.ints .u64 4))) (.cons 33 (.vec (.agg (.ints .u64 4))) (.cons 88 (.agg (.cons (.agg (.one (.ints .u64 4))) (.cons (.agg (.one (.ints .u64 4))) (.cons (.agg (.one (.ints .u64 4))) (.cons (.agg (.one (.ints .u64 4))) (.cons (.ints .u64 4) (.cons (.ints .u64 4) (.cons (.ints .u64 4) (.cons (.slw 32 34) (.cons (.slw 33 34) (.cons (.ints .u64 4) (.one (.ints .u64 4))))))))))))) (.cons 104 (.gsw 303 5) (.one 303 (.lst .u8))))))⟩
def wire_EncodeProof_of_msm_Line_l4_T : Fm (Unit) (Unit) := ⟨.nil, .nil⟩
noncomputable def ls_wire_EncodeProof_of_msm_Line (N : Nat) : List (Nat × Lf) := [(4, loopCt wire_EncodeProof_of_msm_Line_l4_H wire_EncodeProof_of_msm_Line_l4_O wire_EncodeProof_of_msm_Line_l4_T 308 (wire_EncodeProof_of_msm_Line_l4 N) N)]
theorem wire_EncodeProof_of_msm_Line_l4_step (N : Nat) : StepIs Tryd.prog (cxIn Tryd.f7 (cs_wire_EncodeProof_of_msm_Line N) gs_wire_EncodeProof_of_msm_Line 64 (is_wire_EncodeProof_of_msm_Line N)) (ls_wire_EncodeProof_of_msm_Line N) Tryd.f7 4 308 wire_EncodeProof_of_msm_Line_l4_H wire_EncodeProof_of_msm_Line_l4_O wire_EncodeProof_of_msm_Line_l4_T (wire_EncodeProof_of_msm_Line_l4 N) := by
  intro v; kernel_rfl
theorem r_wire_EncodeProof_of_msm_Line (N : Nat) : IoRunIs Tryd.prog (cs_wire_EncodeProof_of_msm_Line N) gs_wire_EncodeProof_of_msm_Line 64 (is_wire_EncodeProof_of_msm_Line N) (ls_wire_EncodeProof_of_msm_Line N) Tryd.f7 88 fA_wire_EncodeProof_of_msm_Line fR_wire_EncodeProof_of_msm_Line fM_wire_EncodeProof_of_msm_Line fB_wire_EncodeProof_of_msm_Line fE_wire_EncodeProof_of_msm_Line [32, 33] (fun x => wire_EncodeProof_of_msm_Line N x.1 x.2.1 x.2.2) := by
  intro x; kernel_rfl
theorem s_wire_EncodeProof_of_msm_Line {w0 : World} (N : Nat)  (hcs : ∀ x ∈ cs_wire_EncodeProof_of_msm_Line N, SoundAt Tryd.prog w0 x.1 x.2) : SIO_wire_EncodeProof_of_msm_Line w0 N := by
  have L4 : ∀ w : Base, w.g = w0 → ∀ ρk, LoopOKX Tryd.prog (cxIn Tryd.f7 (cs_wire_EncodeProof_of_msm_Line N) gs_wire_EncodeProof_of_msm_Line 64 (is_wire_EncodeProof_of_msm_Line N)) w (Kp [32, 33] ρk) 4 (.loop (loopBody Tryd.f7 4)) (loopCt wire_EncodeProof_of_msm_Line_l4_H wire_EncodeProof_of_msm_Line_l4_O wire_EncodeProof_of_msm_Line_l4_T 308 (wire_EncodeProof_of_msm_Line_l4 N) N) :=
    loop_printedK hcs (isok_wire_EncodeProof_of_msm_Line N hcs) (ls := ls_wire_EncodeProof_of_msm_Line N) (n := 100) (by kernel_rfl) (wire_EncodeProof_of_msm_Line_l4_step N) N fun w hw ρk => loopsOK_list (lp_no (by kernel_rfl) lp_nil)
  exact io_printed hcs (glob_nil _ _) (isok_wire_EncodeProof_of_msm_Line N hcs) Tryd.func7 (by kernel_rfl) (by kernel_rfl) (fun w hw ρk => loopsOK_list (lp_yes (L4 w hw ρk) (by kernel_rfl) lp_nil)) (by kernel_rfl) (r_wire_EncodeProof_of_msm_Line N)
theorem k_wire_EncodeProof_of_msm_Line {w0 : World} (N : Nat)  (hg_scalar_lower : GlobOK Tryd.prog w0 gs_scalar_lower) (hg_scalar_Scalar_Least : GlobOK Tryd.prog w0 gs_scalar_Scalar_Least) : SIO_wire_EncodeProof_of_msm_Line w0 N :=
  s_wire_EncodeProof_of_msm_Line N (cs_cons (k_scalar_Scalar_Encode N hg_scalar_lower hg_scalar_Scalar_Least) cs_nil)

def fA_veilref10_EncodeProof : Ag ((((Int × (List Int × List Int) × List Int × List (List Int)) × (Int × (List Int × List Int) × List Int × List (List Int)) × (Int × (List Int × List Int) × List Int × List (List Int)) × (Int × (List Int × List Int) × List Int × List (List Int))) × (List Int × List Int × List Int) × List ((Int × (List Int × List Int) × List Int × List (List Int))) × (List Int × List Int))) := (.one (.agg (.cons (.agg (.cons (.agg (.cons (.int .i64) (.cons (.agg (.one (.agg (.cons (.ints .i64 10) (.one (.ints .i64 10)))))) (.cons (.ints .u64 4) (.one (.dvw 32 58 (.tc (.ints .u64 4)))))))) (.cons (.agg (.cons (.int .i64) (.cons (.agg (.one (.agg (.cons (.ints .i64 10) (.one (.ints .i64 10)))))) (.cons (.ints .u64 4) (.one (.dvw 33 58 (.tc (.ints .u64 4)))))))) (.cons (.agg (.cons (.int .i64) (.cons (.agg (.one (.agg (.cons (.ints .i64 10) (.one (.ints .i64 10)))))) (.cons (.ints .u64 4) (.one (.dvw 34 58 (.tc (.ints .u64 4)))))))) (.one (.agg (.cons (.int .i64) (.cons (.agg (.one (.agg (.cons (.ints .i64 10) (.one (.ints .i64 10)))))) (.cons (.ints .u64 4) (.one (.dvw 35 58 (.tc (.ints .u64 4))))))))))))) (.cons (.agg (.cons (.ints .u64 4) (.cons (.ints .u64 4) (.one (.ints .u64 4))))) (.cons (.dvw 36 61 (.agg (.cons (.tc (.int .i64)) (.cons (.tc (.agg (.agg (.cons (.ints .i64 10) (.ints .i64 10))))) (.cons (.tc (.ints .u64 4)) (.row (.tc (.ints .u64 4)) 58)))))) (.one (.agg (.cons (.ints .u64 4) (.one (.ints .u64 4))))))))))
def fR_veilref10_EncodeProof : Ent (Unit) := .nil
def fM_veilref10_EncodeProof : Ent (Unit) := .nil
def fB_veilref10_EncodeProof : Pt (Nat) := (.gsw 64 5)
def fE_veilref10_EncodeProof : Ent ((Nat × List Int)) := (.one 64 (.lst .u8))
abbrev SIO_veilref10_EncodeProof (w0 : World) (N : Nat) : Prop := SoundIo Tryd.prog w0 18 64 88 fA_veilref10_EncodeProof fR_veilref10_EncodeProof fM_veilref10_EncodeProof fB_veilref10_EncodeProof fE_veilref10_EncodeProof [] (fun x => veilref10_EncodeProof N x.1 x.2.1 x.2.2)
def cs_veilref10_EncodeProof (N : Nat) : List (FuncId × Ct) := [(41, (ct_veilref02_Scalar_Encode N))]
def gs_veilref10_EncodeProof : List Gv := []
noncomputable abbrev is0_veilref10_EncodeProof (N : Nat) : List (FuncId × Inl) := ((40, (inlOf Tryd.prog (cs_veilref10_EncodeProof N) gs_veilref10_EncodeProof 64 100 [] Tryd.f40)) :: [])
theorem isok0_veilref10_EncodeProof {w0 : World} (N : Nat) (hcs : ∀ x ∈ cs_veilref10_EncodeProof N, SoundAt Tryd.prog w0 x.1 x.2) : AllOK Tryd.prog w0 gs_veilref10_EncodeProof 64 (is0_veilref10_EncodeProof N) := allok_cons (one_of hcs allok_nil Tryd.func40 (by kernel_rfl) (by kernel_rfl)) allok_nil
noncomputable abbrev is_veilref10_EncodeProof (N : Nat) : List (FuncId × Inl) := (is0_veilref10_EncodeProof N)
theorem isok_veilref10_EncodeProof {w0 : World} (N : Nat) (hcs : ∀ x ∈ cs_veilref10_EncodeProof N, SoundAt Tryd.prog w0 x.1 x.2) : AllOK Tryd.prog w0 gs_veilref10_EncodeProof 64 (is_veilref10_EncodeProof N) := (isok0_veilref10_EncodeProof N hcs)
def veilref10_EncodeProof_l4_H : Fm ((Unit × Unit × Nat × Int)) (((Nat × List Int) × (((Int × (List Int × List Int) × List Int × List (List Int)) × (Int × (List Int × List Int) × List Int × List (List Int)) × (Int × (List Int × List Int) × List Int × List (List Int)) × (Int × (List Int × List Int) × List Int × List (List Int))) × (List Int × List Int × List Int) × List ((Int × (List Int × List Int) × List Int × List (List Int))) × (List Int × List Int)))) := ⟨(.cons 1 (.lit (.ptr 88 [] 67)) (.cons 2 (.lit .nils) (.cons 3 (.gsw 64 5) (.one 8 (.int .i64))))), (.cons 64 (.lst .u8) (.one 88 (.agg (.cons (.agg (.cons (.agg (.cons (.int .i64) (.cons (.agg (.one (.agg (.cons (.ints .i64 10) (.one (.ints .i64 10)))))) (.cons (.ints .u64 4) (.one (.dvw 32 58 (.tc (.ints .u64 4)))))))) (.cons (.agg (.cons (.int .i64) (.cons (.agg (.one (.agg (.cons (.ints .i64 10) (.one (.ints .i64 10)))))) (.cons (.ints .u64 4) (.one (.dvw 33 58 (.tc (.ints .u64 4)))))))) (.cons (.agg (.cons (.int .i64) (.cons (.agg (.one (.agg (.cons (.ints .i64 10) (.one (.ints .i64 10)))))) (.cons (.ints .u64 4) (.one (.dvw 34 58 (.tc (.ints .u64 4)))))))) (.one (.agg (.cons (.int .i64) (.cons (.agg (.one (.agg (.cons (.ints .i64 10) (.one (.ints .i64 10)))))) (.cons (.ints .u64 4) (.one (.dvw 35 58 (.tc (.ints .u64 4))))))))))))) (.cons (.agg (.cons (.ints .u64 4) (.cons (.ints .u64 4) (.one (.ints .u64 4))))) (.cons (.dvw 36 61 (.agg (.cons (.tc (.int .i64)) (.cons (.tc (.agg (.agg (.cons (.ints .i64 10) (.ints .i64 10))))) (.cons (.tc (.ints .u64 4)) (.row (.tc (.ints .u64 4)) 58)))))) (.one (.agg (.cons (.ints .u64 4) (.one (.ints .u64 4)))))))))))⟩
def veilref10_EncodeProof_l4_O : Fm ((Unit × Nat)) (((Nat × List Int) × (((Int × (List Int × List Int) × List Int × List (List Int)) × (Int × (List Int × List Int) × List Int × List (List Int)) × (Int × (List Int × List Int) × List Int × List (List Int)) × (Int × (List Int × List Int) × List Int × List (List Int))) × (List Int × List Int × List Int) × List ((Int × (List Int × List Int) × List Int × List (List Int))) × (List Int × List Int)))) := ⟨(.cons 1 (.lit (.ptr 88 [] 67)) (.one 3 (.gsw 64 5))), (.cons 64 (.lst .u8) (.one 88 (.agg (.cons (.agg (.cons (.agg (.cons (.int .i64) (.cons (.agg (.one (.agg (.cons (.ints .i64 10) (.one (.ints .i64 10)))))) (.cons (.ints .u64 4) (.one (.dvw 32 58 (.tc (.ints .u64 4)))))))) (.cons (.agg (.cons (.int .i64) (.cons (.agg (.one (.agg (.cons (.ints .i64 10) (.one (.ints .i64 10)))))) (.cons (.ints .u64 4) (.one (.dvw 33 58 (.tc (.ints .u64 4)))))))) (.cons (.agg (.cons (.int .i64) (.cons (.agg (.one (.agg (.cons (.ints .i64 10) (.one (.ints .i64 10)))))) (.cons (.ints .u64 4) (.one (.dvw 34 58 (.tc (.ints .u64 4)))))))) (.one (.agg (.cons (.int .i64) (.cons (.agg (.one (.agg (.cons (.ints .i64 10) (.one (.ints .i64 10)))))) (.cons (.ints .u64 4) (.one (.dvw 35 58 (.tc (.ints .u64 4))))))))))))) (.cons (.agg (.cons (.ints .u64 4) (.cons (.ints .u64 4) (.one (.ints .u64 4))))) (.cons (.dvw 36 61 (.agg (.cons (.tc (.int .i64)) (.cons (.tc (.agg (.agg (.cons (.ints .i64 10) (.ints .i64 10))))) (.cons (.tc (.ints .u64 4)) (.row (.tc (.ints .u64 4)) 58)))))) (.one (.agg (.cons (.ints .u64 4) (.one (.ints .u64 4)))))))))))⟩
def veilref10_EncodeProof_l4_T : Fm (Unit) (Unit) := ⟨.nil, .nil⟩
noncomputable def ls_veilref10_EncodeProof (N : Nat) : List (Nat × Lf) := [(4, loopCt veilref10_EncodeProof_l4_H veilref10_EncodeProof_l4_O veilref10_EncodeProof_l4_T 93 (veilref10_EncodeProof_l4 N) N)]
theorem veilref10_EncodeProof_l4_step (N : Nat) : StepIs Tryd.prog (cxIn Tryd.f18 (cs_veilref10_EncodeProof N) gs_veilref10_EncodeProof 64 (is_veilref10_EncodeProof N)) (ls_veilref10_EncodeProof N) Tryd.f18 4 93 veilref10_EncodeProof_l4_H veilref10_EncodeProof_l4_O veilref10_EncodeProof_l4_T (veilref10_EncodeProof_l4 N) := by
  intro v; kernel_rfl
theorem r_veilref10_EncodeProof (N : Nat) : IoRunIs Tryd.prog (cs_veilref10_EncodeProof N) gs_veilref10_EncodeProof 64 (is_veilref10_EncodeProof N) (ls_veilref10_EncodeProof N) Tryd.f18 88 fA_veilref10_EncodeProof fR_veilref10_EncodeProof fM_veilref10_EncodeProof fB_veilref10_EncodeProof fE_veilref10_EncodeProof [] (fun x => veilref10_EncodeProof N x.1 x.2.1 x.2.2) := by
  intro x; kernel_rfl
theorem s_veilref10_EncodeProof {w0 : World} (N : Nat)  (hcs : ∀ x ∈ cs_veilref10_EncodeProof N, SoundAt Tryd.prog w0 x.1 x.2) : SIO_veilref10_EncodeProof w0 N := by
  have L4 : ∀ w : Base, w.g = w0 → ∀ ρk, LoopOKX Tryd.prog (cxIn Tryd.f18 (cs_veilref10_EncodeProof N) gs_veilref10_EncodeProof 64 (is_veilref10_EncodeProof N)) w (Kp [] ρk) 4 (.loop (loopBody Tryd.f18 4)) (loopCt veilref10_EncodeProof_l4_H veilref10_EncodeProof_l4_O veilref10_EncodeProof_l4_T 93 (veilref10_EncodeProof_l4 N) N) :=
    loop_printedK hcs (isok_veilref10_EncodeProof N hcs) (ls := ls_veilref10_EncodeProof N) (n := 100) (by kernel_rfl) (veilref10_EncodeProof_l4_step N) N fun w hw ρk => loopsOK_list (lp_no (by kernel_rfl) lp_nil)
  exact io_printed hcs (glob_nil _ _) (isok_veilref10_EncodeProof N hcs) Tryd.func18 (by kernel_rfl) (by kernel_rfl) (fun w hw ρk => loopsOK_list (lp_yes (L4 w hw ρk) (by kernel_rfl) lp_nil)) (by kernel_rfl) (r_veilref10_EncodeProof N)
theorem k_veilref10_EncodeProof {w0 : World} (N : Nat)  : SIO_veilref10_EncodeProof w0 N :=
  s_veilref10_EncodeProof N (cs_cons (k_veilref02_Scalar_Encode N) cs_nil)

def fA_veillaw10_WireProof_bytes : Ag (((List Int × List Int × List Int × List Int) × List Int × List Int × List Int × List (List Int) × List (List Int) × List Int × List Int)) := (.one (.agg (.cons (.agg (.cons (.ints .u64 4) (.cons (.ints .u64 4) (.cons (.ints .u64 4) (.one (.ints .u64 4)))))) (.cons (.ints .u64 4) (.cons (.ints .u64 4) (.cons (.ints .u64 4) (.cons (.dvw 32 24 (.tc (.ints .u64 4))) (.cons (.dvw 33 24 (.tc (.ints .u64 4))) (.cons (.ints .u64 4) (.one (.ints .u64 4)))))))))))
def fR_veillaw10_WireProof_bytes : Ent (Unit) := .nil
def fM_veillaw10_WireProof_bytes : Ent (Unit) := .nil
def fB_veillaw10_WireProof_bytes : Pt (Nat) := (.gsw 64 5)
def fE_veillaw10_WireProof_bytes : Ent ((Nat × List Int)) := (.one 64 (.lst .u8))
abbrev SIO_veillaw10_WireProof_bytes (w0 : World) (N : Nat) : Prop := SoundIo Tryd.prog w0 10 64 88 fA_veillaw10_WireProof_bytes fR_veillaw10_WireProof_bytes fM_veillaw10_WireProof_bytes fB_veillaw10_WireProof_bytes fE_veillaw10_WireProof_bytes [] (fun x => veillaw10_WireProof_bytes N x.1 x.2.1 x.2.2)
def cs_veillaw10_WireProof_bytes (N : Nat) : List (FuncId × Ct) := [(31, ct_veilref07_LineOf), (32, (ct_veilref02_Least N))]
def gs_veillaw10_WireProof_bytes : List Gv := []
noncomputable abbrev is0_veillaw10_WireProof_bytes (N : Nat) : List (FuncId × Inl) := ((18, (Inl.ct Tryd.prog 64 64 88 fA_veilref10_EncodeProof fR_veilref10_EncodeProof fM_veilref10_EncodeProof fB_veilref10_EncodeProof fE_veilref10_EncodeProof [] (fun x => veilref10_EncodeProof N x.1 x.2.1 x.2.2))) :: [])
theorem isok0_veillaw10_WireProof_bytes {w0 : World} (N : Nat) (hcs : ∀ x ∈ cs_veillaw10_WireProof_bytes N, SoundAt Tryd.prog w0 x.1 x.2) (hf18 : SIO_veilref10_EncodeProof w0 N) : AllOK Tryd.prog w0 gs_veillaw10_WireProof_bytes 64 (is0_veillaw10_WireProof_bytes N) := allok_cons (one_ct hf18 (by kernel_rfl) rfl) allok_nil
noncomputable abbrev is_veillaw10_WireProof_bytes (N : Nat) : List (FuncId × Inl) := (is0_veillaw10_WireProof_bytes N)
theorem isok_veillaw10_WireProof_bytes {w0 : World} (N : Nat) (hcs : ∀ x ∈ cs_veillaw10_WireProof_bytes N, SoundAt Tryd.prog w0 x.1 x.2) (hf18 : SIO_veilref10_EncodeProof w0 N) : AllOK Tryd.prog w0 gs_veillaw10_WireProof_bytes 64 (is_veillaw10_WireProof_bytes N) := (isok0_veillaw10_WireProof_bytes N hcs hf18)
def veillaw10_WireProof_bytes_l2_H : Fm ((Unit × Unit × Unit × Int)) ((Unit × ((List Int × List Int × List Int × List Int) × List Int × List Int × List Int × List (List Int) × List (List Int) × List Int × List Int) × (((Int × (List Int × List Int) × List Int × Unit) × (Int × (List Int × List Int) × List Int × Unit) × (Int × (List Int × List Int) × List Int × Unit) × (Int × (List Int × List Int) × List Int × Unit)) × (List Int × List Int × List Int) × List ((Int × (List Int × List Int) × List Int × List (List Int))) × (List Int × List Int)))) := ⟨(.cons 1 (.lit (.ptr 88 [] 28)) (.cons 2 (.lit .nils) (.cons 3 (.lit (.ptr 90 [] 67)) (.one 5 (.int .i64))))), (.cons 64 (.lit (.dc (.agg (.cons (.tc (.int .i64)) (.cons (.tc (.agg (.agg (.cons (.ints .i64 10) (.ints .i64 10))))) (.cons (.tc (.ints .u64 4)) (.row (.tc (.ints .u64 4)) 58))))) [])) (.cons 88 (.agg (.cons (.agg (.cons (.ints .u64 4) (.cons (.ints .u64 4) (.cons (.ints .u64 4) (.one (.ints .u64 4)))))) (.cons (.ints .u64 4) (.cons (.ints .u64 4) (.cons (.ints .u64 4) (.cons (.dvw 32 24 (.tc (.ints .u64 4))) (.cons (.dvw 33 24 (.tc (.ints .u64 4))) (.cons (.ints .u64 4) (.one (.ints .u64 4)))))))))) (.one 90 (.agg (.cons (.agg (.cons (.agg (.cons (.int .i64) (.cons (.agg (.one (.agg (.cons (.ints .i64 10) (.one (.ints .i64 10)))))) (.cons (.ints .u64 4) (.one (.lit .nils)))))) (.cons (.agg (.cons (.int .i64) (.cons (.agg (.one (.agg (.cons (.ints .i64 10) (.one (.ints .i64 10)))))) (.cons (.ints .u64 4) (.one (.lit .nils)))))) (.cons (.agg (.cons (.int .i64) (.cons (.agg (.one (.agg (.cons (.ints .i64 10) (.one (.ints .i64 10)))))) (.cons (.ints .u64 4) (.one (.lit .nils)))))) (.one (.agg (.cons (.int .i64) (.cons (.agg (.one (.agg (.cons (.ints .i64 10) (.one (.ints .i64 10)))))) (.cons (.ints .u64 4) (.one (.lit .nils))))))))))) (.cons (.agg (.cons (.ints .u64 4) (.cons (.ints .u64 4) (.one (.ints .u64 4))))) (.cons (.dvw 64 61 (.agg (.cons (.tc (.int .i64)) (.cons (.tc (.agg (.agg (.cons (.ints .i64 10) (.ints .i64 10))))) (.cons (.tc (.ints .u64 4)) (.row (.tc (.ints .u64 4)) 58)))))) (.one (.agg (.cons (.ints .u64 4) (.one (.ints .u64 4))))))))))))⟩
def veillaw10_WireProof_bytes_l2_O : Fm ((Unit × Unit)) ((Unit × ((List Int × List Int × List Int × List Int) × List Int × List Int × List Int × List (List Int) × List (List Int) × List Int × List Int) × (((Int × (List Int × List Int) × List Int × Unit) × (Int × (List Int × List Int) × List Int × Unit) × (Int × (List Int × List Int) × List Int × Unit) × (Int × (List Int × List Int) × List Int × Unit)) × (List Int × List Int × List Int) × List ((Int × (List Int × List Int) × List Int × List (List Int))) × (List Int × List Int)))) := ⟨(.cons 1 (.lit (.ptr 88 [] 28)) (.one 3 (.lit (.ptr 90 [] 67)))), (.cons 64 (.lit (.dc (.agg (.cons (.tc (.int .i64)) (.cons (.tc (.agg (.agg (.cons (.ints .i64 10) (.ints .i64 10))))) (.cons (.tc (.ints .u64 4)) (.row (.tc (.ints .u64 4)) 58))))) [])) (.cons 88 (.agg (.cons (.agg (.cons (.ints .u64 4) (.cons (.ints .u64 4) (.cons (.ints .u64 4) (.one (.ints .u64 4)))))) (.cons (.ints .u64 4) (.cons (.ints .u64 4) (.cons (.ints .u64 4) (.cons (.dvw 32 24 (.tc (.ints .u64 4))) (.cons (.dvw 33 24 (.tc (.ints .u64 4))) (.cons (.ints .u64 4) (.one (.ints .u64 4)))))))))) (.one 90 (.agg (.cons (.agg (.cons (.agg (.cons (.int .i64) (.cons (.agg (.one (.agg (.cons (.ints .i64 10) (.one (.ints .i64 10)))))) (.cons (.ints .u64 4) (.one (.lit .nils)))))) (.cons (.agg (.cons (.int .i64) (.cons (.agg (.one (.agg (.cons (.ints .i64 10) (.one (.ints .i64 10)))))) (.cons (.ints .u64 4) (.one (.lit .nils)))))) (.cons (.agg (.cons (.int .i64) (.cons (.agg (.one (.agg (.cons (.ints .i64 10) (.one (.ints .i64 10)))))) (.cons (.ints .u64 4) (.one (.lit .nils)))))) (.one (.agg (.cons (.int .i64) (.cons (.agg (.one (.agg (.cons (.ints .i64 10) (.one (.ints .i64 10)))))) (.cons (.ints .u64 4) (.one (.lit .nils))))))))))) (.cons (.agg (.cons (.ints .u64 4) (.cons (.ints .u64 4) (.one (.ints .u64 4))))) (.cons (.dvw 64 61 (.agg (.cons (.tc (.int .i64)) (.cons (.tc (.agg (.agg (.cons (.ints .i64 10) (.ints .i64 10))))) (.cons (.tc (.ints .u64 4)) (.row (.tc (.ints .u64 4)) 58)))))) (.one (.agg (.cons (.ints .u64 4) (.one (.ints .u64 4))))))))))))⟩
def veillaw10_WireProof_bytes_l2_T : Fm (Unit) (Unit) := ⟨.nil, .nil⟩
noncomputable def ls_veillaw10_WireProof_bytes (N : Nat) : List (Nat × Lf) := [(2, loopCt veillaw10_WireProof_bytes_l2_H veillaw10_WireProof_bytes_l2_O veillaw10_WireProof_bytes_l2_T 95 (veillaw10_WireProof_bytes_l2 N) N)]
theorem veillaw10_WireProof_bytes_l2_step (N : Nat) : StepIs Tryd.prog (cxIn Tryd.f10 (cs_veillaw10_WireProof_bytes N) gs_veillaw10_WireProof_bytes 64 (is_veillaw10_WireProof_bytes N)) (ls_veillaw10_WireProof_bytes N) Tryd.f10 2 95 veillaw10_WireProof_bytes_l2_H veillaw10_WireProof_bytes_l2_O veillaw10_WireProof_bytes_l2_T (veillaw10_WireProof_bytes_l2 N) := by
  intro v; kernel_rfl
theorem r_veillaw10_WireProof_bytes (N : Nat) : IoRunIs Tryd.prog (cs_veillaw10_WireProof_bytes N) gs_veillaw10_WireProof_bytes 64 (is_veillaw10_WireProof_bytes N) (ls_veillaw10_WireProof_bytes N) Tryd.f10 88 fA_veillaw10_WireProof_bytes fR_veillaw10_WireProof_bytes fM_veillaw10_WireProof_bytes fB_veillaw10_WireProof_bytes fE_veillaw10_WireProof_bytes [] (fun x => veillaw10_WireProof_bytes N x.1 x.2.1 x.2.2) := by
  intro x; kernel_rfl
theorem s_veillaw10_WireProof_bytes {w0 : World} (N : Nat)  (hcs : ∀ x ∈ cs_veillaw10_WireProof_bytes N, SoundAt Tryd.prog w0 x.1 x.2) (hf18 : SIO_veilref10_EncodeProof w0 N) : SIO_veillaw10_WireProof_bytes w0 N := by
  have L2 : ∀ w : Base, w.g = w0 → ∀ ρk, LoopOKX Tryd.prog (cxIn Tryd.f10 (cs_veillaw10_WireProof_bytes N) gs_veillaw10_WireProof_bytes 64 (is_veillaw10_WireProof_bytes N)) w (Kp [] ρk) 2 (.loop (loopBody Tryd.f10 2)) (loopCt veillaw10_WireProof_bytes_l2_H veillaw10_WireProof_bytes_l2_O veillaw10_WireProof_bytes_l2_T 95 (veillaw10_WireProof_bytes_l2 N) N) :=
    loop_printedK hcs (isok_veillaw10_WireProof_bytes N hcs hf18) (ls := ls_veillaw10_WireProof_bytes N) (n := 100) (by kernel_rfl) (veillaw10_WireProof_bytes_l2_step N) N fun w hw ρk => loopsOK_list (lp_no (by kernel_rfl) lp_nil)
  exact io_printed hcs (glob_nil _ _) (isok_veillaw10_WireProof_bytes N hcs hf18) Tryd.func10 (by kernel_rfl) (by kernel_rfl) (fun w hw ρk => loopsOK_list (lp_yes (L2 w hw ρk) (by kernel_rfl) lp_nil)) (by kernel_rfl) (r_veillaw10_WireProof_bytes N)
theorem k_veillaw10_WireProof_bytes {w0 : World} (N : Nat)  : SIO_veillaw10_WireProof_bytes w0 N :=
  s_veillaw10_WireProof_bytes N (cs_cons (k_veilref07_LineOf) (cs_cons (k_veilref02_Least N) cs_nil)) (k_veilref10_EncodeProof N)

def fA_veillaw10_WireEncodes : Ag (((List Int × List Int × List Int × List Int) × List Int × List Int × List Int × List (List Int) × List (List Int) × List Int × List Int)) := (.one (.agg (.cons (.agg (.cons (.ints .u64 4) (.cons (.ints .u64 4) (.cons (.ints .u64 4) (.one (.ints .u64 4)))))) (.cons (.ints .u64 4) (.cons (.ints .u64 4) (.cons (.ints .u64 4) (.cons (.dvw 32 24 (.tc (.ints .u64 4))) (.cons (.dvw 33 24 (.tc (.ints .u64 4))) (.cons (.ints .u64 4) (.one (.ints .u64 4)))))))))))
def fR_veillaw10_WireEncodes : Ent (Unit) := .nil
def fM_veillaw10_WireEncodes : Ent (Unit) := .nil
def fB_veillaw10_WireEncodes : Pt (Bool) := .bool
def fE_veillaw10_WireEncodes : Ent (Unit) := .nil
abbrev SIO_veillaw10_WireEncodes (w0 : World) (N : Nat) : Prop := SoundIo Tryd.prog w0 3 64 88 fA_veillaw10_WireEncodes fR_veillaw10_WireEncodes fM_veillaw10_WireEncodes fB_veillaw10_WireEncodes fE_veillaw10_WireEncodes [] (fun x => veillaw10_WireEncodes N x.1 x.2.1 x.2.2)
def cs_veillaw10_WireEncodes (N : Nat) : List (FuncId × Ct) := []
def gs_veillaw10_WireEncodes : List Gv := []
noncomputable abbrev is0_veillaw10_WireEncodes (N : Nat) : List (FuncId × Inl) := ((8, (Inl.ct Tryd.prog 64 64 88 fA_veillaw10_WireProof_line fR_veillaw10_WireProof_line fM_veillaw10_WireProof_line fB_veillaw10_WireProof_line fE_veillaw10_WireProof_line [] (fun x => veillaw10_WireProof_line N x.1 x.2.1 x.2.2))) :: [])
theorem isok0_veillaw10_WireEncodes {w0 : World} (N : Nat) (hcs : ∀ x ∈ cs_veillaw10_WireEncodes N, SoundAt Tryd.prog w0 x.1 x.2) (hf8 : SIO_veillaw10_WireProof_line w0 N) (hf7 : SIO_wire_EncodeProof_of_msm_Line w0 N) (hf10 : SIO_veillaw10_WireProof_bytes w0 N) : AllOK Tryd.prog w0 gs_veillaw10_WireEncodes 64 (is0_veillaw10_WireEncodes N) := allok_cons (one_ct hf8 (by kernel_rfl) rfl) allok_nil
noncomputable abbrev is1_veillaw10_WireEncodes (N : Nat) : List (FuncId × Inl) := ((7, (Inl.ct Tryd.prog 64 64 88 fA_wire_EncodeProof_of_msm_Line fR_wire_EncodeProof_of_msm_Line fM_wire_EncodeProof_of_msm_Line fB_wire_EncodeProof_of_msm_Line fE_wire_EncodeProof_of_msm_Line [32, 33] (fun x => wire_EncodeProof_of_msm_Line N x.1 x.2.1 x.2.2))) :: (is0_veillaw10_WireEncodes N))
theorem isok1_veillaw10_WireEncodes {w0 : World} (N : Nat) (hcs : ∀ x ∈ cs_veillaw10_WireEncodes N, SoundAt Tryd.prog w0 x.1 x.2) (hf8 : SIO_veillaw10_WireProof_line w0 N) (hf7 : SIO_wire_EncodeProof_of_msm_Line w0 N) (hf10 : SIO_veillaw10_WireProof_bytes w0 N) : AllOK Tryd.prog w0 gs_veillaw10_WireEncodes 64 (is1_veillaw10_WireEncodes N) := allok_cons (one_ct hf7 (by kernel_rfl) rfl) (isok0_veillaw10_WireEncodes N hcs hf8 hf7 hf10)
noncomputable abbrev is2_veillaw10_WireEncodes (N : Nat) : List (FuncId × Inl) := ((10, (Inl.ct Tryd.prog 64 64 88 fA_veillaw10_WireProof_bytes fR_veillaw10_WireProof_bytes fM_veillaw10_WireProof_bytes fB_veillaw10_WireProof_bytes fE_veillaw10_WireProof_bytes [] (fun x => veillaw10_WireProof_bytes N x.1 x.2.1 x.2.2))) :: (is1_veillaw10_WireEncodes N))
theorem isok2_veillaw10_WireEncodes {w0 : World} (N : Nat) (hcs : ∀ x ∈ cs_veillaw10_WireEncodes N, SoundAt Tryd.prog w0 x.1 x.2) (hf8 : SIO_veillaw10_WireProof_line w0 N) (hf7 : SIO_wire_EncodeProof_of_msm_Line w0 N) (hf10 : SIO_veillaw10_WireProof_bytes w0 N) : AllOK Tryd.prog w0 gs_veillaw10_WireEncodes 64 (is2_veillaw10_WireEncodes N) := allok_cons (one_ct hf10 (by kernel_rfl) rfl) (isok1_veillaw10_WireEncodes N hcs hf8 hf7 hf10)
noncomputable abbrev is3_veillaw10_WireEncodes (N : Nat) : List (FuncId × Inl) := ((9, (inlOf Tryd.prog (cs_veillaw10_WireEncodes N) gs_veillaw10_WireEncodes 64 100 (is2_veillaw10_WireEncodes N) Tryd.f9)) :: (is2_veillaw10_WireEncodes N))
theorem isok3_veillaw10_WireEncodes {w0 : World} (N : Nat) (hcs : ∀ x ∈ cs_veillaw10_WireEncodes N, SoundAt Tryd.prog w0 x.1 x.2) (hf8 : SIO_veillaw10_WireProof_line w0 N) (hf7 : SIO_wire_EncodeProof_of_msm_Line w0 N) (hf10 : SIO_veillaw10_WireProof_bytes w0 N) : AllOK Tryd.prog w0 gs_veillaw10_WireEncodes 64 (is3_veillaw10_WireEncodes N) := allok_cons (one_of hcs (isok2_veillaw10_WireEncodes N hcs hf8 hf7 hf10) Tryd.func9 (by kernel_rfl) (by kernel_rfl)) (isok2_veillaw10_WireEncodes N hcs hf8 hf7 hf10)
noncomputable abbrev is_veillaw10_WireEncodes (N : Nat) : List (FuncId × Inl) := (is3_veillaw10_WireEncodes N)
theorem isok_veillaw10_WireEncodes {w0 : World} (N : Nat) (hcs : ∀ x ∈ cs_veillaw10_WireEncodes N, SoundAt Tryd.prog w0 x.1 x.2) (hf8 : SIO_veillaw10_WireProof_line w0 N) (hf7 : SIO_wire_EncodeProof_of_msm_Line w0 N) (hf10 : SIO_veillaw10_WireProof_bytes w0 N) : AllOK Tryd.prog w0 gs_veillaw10_WireEncodes 64 (is_veillaw10_WireEncodes N) := (isok3_veillaw10_WireEncodes N hcs hf8 hf7 hf10)
def veillaw10_WireEncodes_l0_H : Fm ((Unit × Unit × Nat × Int × Nat × Int)) (((Nat × List Int) × (Nat × List Int) × ((List Int × List Int × List Int × List Int) × List Int × List Int × List Int × List (List Int) × List (List Int) × List Int × List Int))) := ⟨(.cons 1 (.lit (.ptr 88 [] 28)) (.cons 2 (.lit (.bool false)) (.cons 3 (.gsw 64 5) (.cons 4 (.int .i64) (.cons 5 (.gsw 65 5) (.one 7 (.int .i64))))))), (.cons 64 (.lst .u8) (.cons 65 (.lst .u8) (.one 88 (.agg (.cons (.agg (.cons (.ints .u64 4) (.cons (.ints .u64 4) (.cons (.ints .u64 4) (.one (.ints .u64 4)))))) (.cons (.ints .u64 4) (.cons (.ints .u64 4) (.cons (.ints .u64 4) (.cons (.dvw 32 24 (.tc (.ints .u64 4))) (.cons (.dvw 33 24 (.tc (.ints .u64 4))) (.cons (.ints .u64 4) (.one (.ints .u64 4)))))))))))))⟩
def veillaw10_WireEncodes_l0_O : Fm ((Unit × Nat × Int × Nat)) (((Nat × List Int) × (Nat × List Int) × ((List Int × List Int × List Int × List Int) × List Int × List Int × List Int × List (List Int) × List (List Int) × List Int × List Int))) := ⟨(.cons 1 (.lit (.ptr 88 [] 28)) (.cons 3 (.gsw 64 5) (.cons 4 (.int .i64) (.one 5 (.gsw 65 5))))), (.cons 64 (.lst .u8) (.cons 65 (.lst .u8) (.one 88 (.agg (.cons (.agg (.cons (.ints .u64 4) (.cons (.ints .u64 4) (.cons (.ints .u64 4) (.one (.ints .u64 4)))))) (.cons (.ints .u64 4) (.cons (.ints .u64 4) (.cons (.ints .u64 4) (.cons (.dvw 32 24 (.tc (.ints .u64 4))) (.cons (.dvw 33 24 (.tc (.ints .u64 4))) (.cons (.ints .u64 4) (.one (.ints .u64 4)))))))))))))⟩
def veillaw10_WireEncodes_l0_T : Fm (Unit) (Unit) := ⟨.nil, .nil⟩
noncomputable def ls_veillaw10_WireEncodes (N : Nat) : List (Nat × Lf) := [(0, loopCt veillaw10_WireEncodes_l0_H veillaw10_WireEncodes_l0_O veillaw10_WireEncodes_l0_T 93 (veillaw10_WireEncodes_l0 N) N)]
theorem veillaw10_WireEncodes_l0_step (N : Nat) : StepIs Tryd.prog (cxIn Tryd.f3 (cs_veillaw10_WireEncodes N) gs_veillaw10_WireEncodes 64 (is_veillaw10_WireEncodes N)) (ls_veillaw10_WireEncodes N) Tryd.f3 0 93 veillaw10_WireEncodes_l0_H veillaw10_WireEncodes_l0_O veillaw10_WireEncodes_l0_T (veillaw10_WireEncodes_l0 N) := by
  intro v; kernel_rfl
theorem r_veillaw10_WireEncodes (N : Nat) : IoRunIs Tryd.prog (cs_veillaw10_WireEncodes N) gs_veillaw10_WireEncodes 64 (is_veillaw10_WireEncodes N) (ls_veillaw10_WireEncodes N) Tryd.f3 88 fA_veillaw10_WireEncodes fR_veillaw10_WireEncodes fM_veillaw10_WireEncodes fB_veillaw10_WireEncodes fE_veillaw10_WireEncodes [] (fun x => veillaw10_WireEncodes N x.1 x.2.1 x.2.2) := by
  intro x; kernel_rfl
theorem s_veillaw10_WireEncodes {w0 : World} (N : Nat)  (hcs : ∀ x ∈ cs_veillaw10_WireEncodes N, SoundAt Tryd.prog w0 x.1 x.2) (hf8 : SIO_veillaw10_WireProof_line w0 N) (hf7 : SIO_wire_EncodeProof_of_msm_Line w0 N) (hf10 : SIO_veillaw10_WireProof_bytes w0 N) : SIO_veillaw10_WireEncodes w0 N := by
  have L0 : ∀ w : Base, w.g = w0 → ∀ ρk, LoopOKX Tryd.prog (cxIn Tryd.f3 (cs_veillaw10_WireEncodes N) gs_veillaw10_WireEncodes 64 (is_veillaw10_WireEncodes N)) w (Kp [] ρk) 0 (.loop (loopBody Tryd.f3 0)) (loopCt veillaw10_WireEncodes_l0_H veillaw10_WireEncodes_l0_O veillaw10_WireEncodes_l0_T 93 (veillaw10_WireEncodes_l0 N) N) :=
    loop_printedK hcs (isok_veillaw10_WireEncodes N hcs hf8 hf7 hf10) (ls := ls_veillaw10_WireEncodes N) (n := 100) (by kernel_rfl) (veillaw10_WireEncodes_l0_step N) N fun w hw ρk => loopsOK_list (lp_no (by kernel_rfl) lp_nil)
  exact io_printed hcs (glob_nil _ _) (isok_veillaw10_WireEncodes N hcs hf8 hf7 hf10) Tryd.func3 (by kernel_rfl) (by kernel_rfl) (fun w hw ρk => loopsOK_list (lp_yes (L0 w hw ρk) (by kernel_rfl) lp_nil)) (by kernel_rfl) (r_veillaw10_WireEncodes N)
theorem k_veillaw10_WireEncodes {w0 : World} (N : Nat)  (hg_scalar_lower : GlobOK Tryd.prog w0 gs_scalar_lower) (hg_scalar_Scalar_Least : GlobOK Tryd.prog w0 gs_scalar_Scalar_Least) : SIO_veillaw10_WireEncodes w0 N :=
  s_veillaw10_WireEncodes N cs_nil (k_veillaw10_WireProof_line N) (k_wire_EncodeProof_of_msm_Line N hg_scalar_lower hg_scalar_Scalar_Least) (k_veillaw10_WireProof_bytes N)

end Go.Vx
