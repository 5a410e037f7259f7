import Derived.Test.YtoionfdfofmplaaDoorFp
import Derived.Test.YtoionfdfofmplaaDoorProg
import Derived.Test.YtoionfdfofmplaaDoorVxR2
import Derived.Test.YtoionfdfofmplaaDoorVxZ2
set_option autoImplicit false
set_option linter.unusedVariables false
set_option linter.unusedSimpArgs false
namespace Go.Vx
open Go Go.Proofs

def ct_bits_Add64 : Ct := fct (.cons (.int .u64) (.cons (.int .u64) (.one (.int .u64)))) (.tup (.cons (.int .u64) (.one (.int .u64)))) fun x => bits_Add64 x.1 x.2.1 x.2.2

theorem k_bits_Add64 {w0 : World} : SoundAt Tryd.prog w0 59 ct_bits_Add64 :=
  sound_add64 Tryd.func59 (by kernel_rfl) (by kernel_rfl) (by kernel_rfl) (by kernel_rfl)

def ct_bits_Sub64 : Ct := fct (.cons (.int .u64) (.cons (.int .u64) (.one (.int .u64)))) (.tup (.cons (.int .u64) (.one (.int .u64)))) fun x => bits_Sub64 x.1 x.2.1 x.2.2

theorem k_bits_Sub64 {w0 : World} : SoundAt Tryd.prog w0 76 ct_bits_Sub64 :=
  sound_sub64 Tryd.func76 (by kernel_rfl) (by kernel_rfl) (by kernel_rfl) (by kernel_rfl)

abbrev A_bits_Mul64 : Ag ((Int × Int)) := (.cons (.int .u64) (.one (.int .u64)))
abbrev B_bits_Mul64 : Pt ((Int × Int)) := (.tup (.cons (.int .u64) (.one (.int .u64))))
def ct_bits_Mul64 : Ct := tct A_bits_Mul64 B_bits_Mul64 fun x => bits_Mul64 x.1 x.2
def cs_bits_Mul64 : List (FuncId × Ct) := []
def gs_bits_Mul64 : List Gv := []
noncomputable def ls_bits_Mul64 : List (Nat × Lf) := []
theorem r_bits_Mul64 : RunIs Tryd.prog (cs_bits_Mul64) gs_bits_Mul64 0 (ls_bits_Mul64) Tryd.f58 A_bits_Mul64 B_bits_Mul64 (fun x => some (bits_Mul64 x.1 x.2)) := by
  intro x; kernel_rfl
theorem s_bits_Mul64 {w0 : World}  (hcs : ∀ x ∈ cs_bits_Mul64, SoundAt Tryd.prog w0 x.1 x.2) : SoundAt Tryd.prog w0 58 ct_bits_Mul64 := by
  exact sound_tct (fn_printed hcs (glob_nil _ _) Tryd.func58 (by kernel_rfl) (by kernel_rfl) (S := 0) (fun w _ => loopsOK_nil _) (fun _ => rfl) (r_bits_Mul64)) fun _ _ => rfl
theorem k_bits_Mul64 {w0 : World}  : SoundAt Tryd.prog w0 58 ct_bits_Mul64 :=
  s_bits_Mul64 cs_nil

abbrev A_scalar_minus : Ag ((List Int × List Int)) := (.cons (.ints .u64 4) (.one (.ints .u64 4)))
abbrev B_scalar_minus : Pt ((List Int × Int)) := (.tup (.cons (.ints .u64 4) (.one (.int .u64))))
def ct_scalar_minus : Ct := fct A_scalar_minus B_scalar_minus fun x => scalar_minus x.1 x.2
def cs_scalar_minus : List (FuncId × Ct) := [(76, ct_bits_Sub64)]
def gs_scalar_minus : List Gv := []
noncomputable def ls_scalar_minus : List (Nat × Lf) := []
theorem r_scalar_minus : RunIs Tryd.prog (cs_scalar_minus) gs_scalar_minus 0 (ls_scalar_minus) Tryd.f60 A_scalar_minus B_scalar_minus (fun x => scalar_minus x.1 x.2) := by
  intro x; kernel_rfl
theorem s_scalar_minus {w0 : World}  (hcs : ∀ x ∈ cs_scalar_minus, SoundAt Tryd.prog w0 x.1 x.2) : SoundAt Tryd.prog w0 60 ct_scalar_minus := by
  exact fn_printed hcs (glob_nil _ _) Tryd.func60 (by kernel_rfl) (by kernel_rfl) (S := 0) (fun w _ => loopsOK_nil _) (fun _ => rfl) (r_scalar_minus)
theorem k_scalar_minus {w0 : World}  : SoundAt Tryd.prog w0 60 ct_scalar_minus :=
  s_scalar_minus (cs_cons (k_bits_Sub64) cs_nil)

abbrev A_scalar_plus : Ag ((List Int × List Int)) := (.cons (.ints .u64 4) (.one (.ints .u64 4)))
abbrev B_scalar_plus : Pt ((List Int × Int)) := (.tup (.cons (.ints .u64 4) (.one (.int .u64))))
def ct_scalar_plus : Ct := fct A_scalar_plus B_scalar_plus fun x => scalar_plus x.1 x.2
def cs_scalar_plus : List (FuncId × Ct) := [(59, ct_bits_Add64)]
def gs_scalar_plus : List Gv := []
noncomputable def ls_scalar_plus : List (Nat × Lf) := []
theorem r_scalar_plus : RunIs Tryd.prog (cs_scalar_plus) gs_scalar_plus 0 (ls_scalar_plus) Tryd.f61 A_scalar_plus B_scalar_plus (fun x => scalar_plus x.1 x.2) := by
  intro x; kernel_rfl
theorem s_scalar_plus {w0 : World}  (hcs : ∀ x ∈ cs_scalar_plus, SoundAt Tryd.prog w0 x.1 x.2) : SoundAt Tryd.prog w0 61 ct_scalar_plus := by
  exact fn_printed hcs (glob_nil _ _) Tryd.func61 (by kernel_rfl) (by kernel_rfl) (S := 0) (fun w _ => loopsOK_nil _) (fun _ => rfl) (r_scalar_plus)
theorem k_scalar_plus {w0 : World}  : SoundAt Tryd.prog w0 61 ct_scalar_plus :=
  s_scalar_plus (cs_cons (k_bits_Add64) cs_nil)

abbrev A_scalar_choose : Ag ((Int × List Int × List Int)) := (.cons (.int .u64) (.cons (.ints .u64 4) (.one (.ints .u64 4))))
abbrev B_scalar_choose : Pt (List Int) := (.ints .u64 4)
def ct_scalar_choose : Ct := tct A_scalar_choose B_scalar_choose fun x => scalar_choose x.1 x.2.1 x.2.2
def cs_scalar_choose : List (FuncId × Ct) := []
def gs_scalar_choose : List Gv := []
noncomputable def ls_scalar_choose : List (Nat × Lf) := []
theorem r_scalar_choose : RunIs Tryd.prog (cs_scalar_choose) gs_scalar_choose 0 (ls_scalar_choose) Tryd.f63 A_scalar_choose B_scalar_choose (fun x => some (scalar_choose x.1 x.2.1 x.2.2)) := by
  intro x; kernel_rfl
theorem s_scalar_choose {w0 : World}  (hcs : ∀ x ∈ cs_scalar_choose, SoundAt Tryd.prog w0 x.1 x.2) : SoundAt Tryd.prog w0 63 ct_scalar_choose := by
  exact sound_tct (fn_printed hcs (glob_nil _ _) Tryd.func63 (by kernel_rfl) (by kernel_rfl) (S := 0) (fun w _ => loopsOK_nil _) (fun _ => rfl) (r_scalar_choose)) fun _ _ => rfl
theorem k_scalar_choose {w0 : World}  : SoundAt Tryd.prog w0 63 ct_scalar_choose :=
  s_scalar_choose cs_nil

abbrev A_scalar_lower : Ag (List Int) := (.one (.ints .u64 4))
abbrev B_scalar_lower : Pt (List Int) := (.ints .u64 4)
def ct_scalar_lower : Ct := fct A_scalar_lower B_scalar_lower fun x => scalar_lower x
def cs_scalar_lower : List (FuncId × Ct) := [(60, ct_scalar_minus), (63, ct_scalar_choose)]
def gs_scalar_lower : List Gv := [⟨0, 25, (.agg [(.ints .u64 4 [6346243789798364141, 1503914060200516822, 0, 1152921504606846976]), (.ints .u64 4 [15486807595281847581, 14334777244411350896, 18446744073709551614, 1152921504606846975]), (.ints .u64 4 [11819153939886771969, 14991950615390032711, 14910419812499177061, 259310039853996605]), (.ints .u64 4 [6346243789798364139, 1503914060200516822, 0, 1152921504606846976])])⟩]
noncomputable def ls_scalar_lower : List (Nat × Lf) := []
theorem r_scalar_lower : RunIs Tryd.prog (cs_scalar_lower) gs_scalar_lower 0 (ls_scalar_lower) Tryd.f62 A_scalar_lower B_scalar_lower (fun x => scalar_lower x) := by
  intro x; kernel_rfl
theorem s_scalar_lower {w0 : World}  (hcs : ∀ x ∈ cs_scalar_lower, SoundAt Tryd.prog w0 x.1 x.2) (hg : GlobOK Tryd.prog w0 gs_scalar_lower) : SoundAt Tryd.prog w0 62 ct_scalar_lower := by
  exact fn_printed hcs hg Tryd.func62 (by kernel_rfl) (by kernel_rfl) (S := 0) (fun w _ => loopsOK_nil _) (fun _ => rfl) (r_scalar_lower)
theorem k_scalar_lower {w0 : World}  (hg_scalar_lower : GlobOK Tryd.prog w0 gs_scalar_lower) : SoundAt Tryd.prog w0 62 ct_scalar_lower :=
  s_scalar_lower (cs_cons (k_scalar_minus) (cs_cons (k_scalar_choose) cs_nil)) hg_scalar_lower

abbrev A_scalar_Scalar_Least : Ag (List Int) := (.one (.ints .u64 4))
abbrev B_scalar_Scalar_Least : Pt (List Int) := (.ints .u64 4)
def ct_scalar_Scalar_Least : Ct := fct A_scalar_Scalar_Least B_scalar_Scalar_Least fun x => scalar_Scalar_Least x
def cs_scalar_Scalar_Least : List (FuncId × Ct) := [(58, ct_bits_Mul64), (59, ct_bits_Add64), (60, ct_scalar_minus), (61, ct_scalar_plus), (62, ct_scalar_lower), (63, ct_scalar_choose)]
def gs_scalar_Scalar_Least : List Gv := [⟨0, 25, (.agg [(.ints .u64 4 [6346243789798364141, 1503914060200516822, 0, 1152921504606846976]), (.ints .u64 4 [15486807595281847581, 14334777244411350896, 18446744073709551614, 1152921504606846975]), (.ints .u64 4 [11819153939886771969, 14991950615390032711, 14910419812499177061, 259310039853996605]), (.ints .u64 4 [6346243789798364139, 1503914060200516822, 0, 1152921504606846976])])⟩]
noncomputable def ls_scalar_Scalar_Least : List (Nat × Lf) := []
theorem r_scalar_Scalar_Least : RunIs Tryd.prog (cs_scalar_Scalar_Least) gs_scalar_Scalar_Least 0 (ls_scalar_Scalar_Least) Tryd.f49 A_scalar_Scalar_Least B_scalar_Scalar_Least (fun x => scalar_Scalar_Least x) := by
  intro x; kernel_rfl
theorem s_scalar_Scalar_Least {w0 : World}  (hcs : ∀ x ∈ cs_scalar_Scalar_Least, SoundAt Tryd.prog w0 x.1 x.2) (hg : GlobOK Tryd.prog w0 gs_scalar_Scalar_Least) : SoundAt Tryd.prog w0 49 ct_scalar_Scalar_Least := by
  exact fn_printed hcs hg Tryd.func49 (by kernel_rfl) (by kernel_rfl) (S := 0) (fun w _ => loopsOK_nil _) (fun _ => rfl) (r_scalar_Scalar_Least)
theorem k_scalar_Scalar_Least {w0 : World}  (hg_scalar_lower : GlobOK Tryd.prog w0 gs_scalar_lower) (hg_scalar_Scalar_Least : GlobOK Tryd.prog w0 gs_scalar_Scalar_Least) : SoundAt Tryd.prog w0 49 ct_scalar_Scalar_Least :=
  s_scalar_Scalar_Least (cs_cons (k_bits_Mul64) (cs_cons (k_bits_Add64) (cs_cons (k_scalar_minus) (cs_cons (k_scalar_plus) (cs_cons (k_scalar_lower hg_scalar_lower) (cs_cons (k_scalar_choose) cs_nil)))))) hg_scalar_Scalar_Least

abbrev A_scalar_Scalar_Encode : Ag (List Int) := (.one (.ints .u64 4))
abbrev B_scalar_Scalar_Encode : Pt (List Int) := (.ints .u8 32)
def ct_scalar_Scalar_Encode (N : Nat) : Ct := fct A_scalar_Scalar_Encode B_scalar_Scalar_Encode fun x => scalar_Scalar_Encode N x
def cs_scalar_Scalar_Encode (N : Nat) : List (FuncId × Ct) := [(49, ct_scalar_Scalar_Least)]
def gs_scalar_Scalar_Encode : List Gv := []
def scalar_Scalar_Encode_l0_H : Fm ((Unit × Unit × Unit × Int)) ((List Int × Unit × List Int)) := ⟨(.cons 1 (.lit (.ptr 0 [] 24)) (.cons 2 (.lit (.ptr 1 [] 82)) (.cons 3 (.lit (.ptr 5 [] 82)) (.one 7 (.int .i64))))), (.cons 0 (.ints .u64 4) (.cons 1 (.lit (.ints .u8 32 [0, 0, 0, 0, 0, 0, 0, 0, 0, 0, 0, 0, 0, 0, 0, 0, 0, 0, 0, 0, 0, 0, 0, 0, 0, 0, 0, 0, 0, 0, 0, 0])) (.one 5 (.ints .u8 32))))⟩
def scalar_Scalar_Encode_l0_O : Fm ((Unit × Unit)) ((Unit × List Int)) := ⟨(.cons 2 (.lit (.ptr 1 [] 82)) (.one 3 (.lit (.ptr 5 [] 82)))), (.cons 1 (.lit (.ints .u8 32 [0, 0, 0, 0, 0, 0, 0, 0, 0, 0, 0, 0, 0, 0, 0, 0, 0, 0, 0, 0, 0, 0, 0, 0, 0, 0, 0, 0, 0, 0, 0, 0])) (.one 5 (.ints .u8 32)))⟩
def scalar_Scalar_Encode_l0_T : Fm (Unit) (Unit) := ⟨.nil, .nil⟩
noncomputable def ls_scalar_Scalar_Encode (N : Nat) : List (Nat × Lf) := [(0, loopCt scalar_Scalar_Encode_l0_H scalar_Scalar_Encode_l0_O scalar_Scalar_Encode_l0_T 7 (scalar_Scalar_Encode_l0 N) N)]
theorem scalar_Scalar_Encode_l0_step (N : Nat) : StepIs Tryd.prog (cxOf Tryd.f29 (cs_scalar_Scalar_Encode N) gs_scalar_Scalar_Encode 0) (ls_scalar_Scalar_Encode N) Tryd.f29 0 7 scalar_Scalar_Encode_l0_H scalar_Scalar_Encode_l0_O scalar_Scalar_Encode_l0_T (scalar_Scalar_Encode_l0 N) := by
  intro v; kernel_rfl
theorem r_scalar_Scalar_Encode (N : Nat) : RunIs Tryd.prog (cs_scalar_Scalar_Encode N) gs_scalar_Scalar_Encode 0 (ls_scalar_Scalar_Encode N) Tryd.f29 A_scalar_Scalar_Encode B_scalar_Scalar_Encode (fun x => scalar_Scalar_Encode N x) := by
  intro x; kernel_rfl
theorem s_scalar_Scalar_Encode {w0 : World} (N : Nat)  (hcs : ∀ x ∈ cs_scalar_Scalar_Encode N, SoundAt Tryd.prog w0 x.1 x.2) : SoundAt Tryd.prog w0 29 (ct_scalar_Scalar_Encode N) := by
  have L0 : ∀ w : Base, w.g = w0 → LoopOK Tryd.prog (cxOf Tryd.f29 (cs_scalar_Scalar_Encode N) gs_scalar_Scalar_Encode 0) w 0 (.loop (loopBody Tryd.f29 0)) (loopCt scalar_Scalar_Encode_l0_H scalar_Scalar_Encode_l0_O scalar_Scalar_Encode_l0_T 7 (scalar_Scalar_Encode_l0 N) N) :=
    loop_printed hcs (ls := ls_scalar_Scalar_Encode N) (n := 100) (by kernel_rfl) (scalar_Scalar_Encode_l0_step N) N fun w hw => loopsOK_list (lp_no (by kernel_rfl) lp_nil)
  exact fn_printed hcs (glob_nil _ _) Tryd.func29 (by kernel_rfl) (by kernel_rfl) (S := 0) (fun w hw => loopsOK_list (lp_yes (L0 w hw) (by kernel_rfl) lp_nil)) (fun _ => rfl) (r_scalar_Scalar_Encode N)
theorem k_scalar_Scalar_Encode {w0 : World} (N : Nat)  (hg_scalar_lower : GlobOK Tryd.prog w0 gs_scalar_lower) (hg_scalar_Scalar_Least : GlobOK Tryd.prog w0 gs_scalar_Scalar_Least) : SoundAt Tryd.prog w0 29 (ct_scalar_Scalar_Encode N) :=
  s_scalar_Scalar_Encode N (cs_cons (k_scalar_Scalar_Least hg_scalar_lower hg_scalar_Scalar_Least) cs_nil)

abbrev A_scalar_Scalar_Same : Ag ((List Int × List Int)) := (.cons (.ints .u64 4) (.one (.ints .u64 4)))
abbrev B_scalar_Scalar_Same : Pt (Bool) := .bool
def ct_scalar_Scalar_Same : Ct := fct A_scalar_Scalar_Same B_scalar_Scalar_Same fun x => scalar_Scalar_Same x.1 x.2
def cs_scalar_Scalar_Same : List (FuncId × Ct) := [(49, ct_scalar_Scalar_Least)]
def gs_scalar_Scalar_Same : List Gv := []
noncomputable def ls_scalar_Scalar_Same : List (Nat × Lf) := []
theorem r_scalar_Scalar_Same : RunIs Tryd.prog (cs_scalar_Scalar_Same) gs_scalar_Scalar_Same 0 (ls_scalar_Scalar_Same) Tryd.f39 A_scalar_Scalar_Same B_scalar_Scalar_Same (fun x => scalar_Scalar_Same x.1 x.2) := by
  intro x; kernel_rfl
theorem s_scalar_Scalar_Same {w0 : World}  (hcs : ∀ x ∈ cs_scalar_Scalar_Same, SoundAt Tryd.prog w0 x.1 x.2) : SoundAt Tryd.prog w0 39 ct_scalar_Scalar_Same := by
  exact fn_printed hcs (glob_nil _ _) Tryd.func39 (by kernel_rfl) (by kernel_rfl) (S := 0) (fun w _ => loopsOK_nil _) (fun _ => rfl) (r_scalar_Scalar_Same)
theorem k_scalar_Scalar_Same {w0 : World}  (hg_scalar_lower : GlobOK Tryd.prog w0 gs_scalar_lower) (hg_scalar_Scalar_Least : GlobOK Tryd.prog w0 gs_scalar_Scalar_Least) : SoundAt Tryd.prog w0 39 ct_scalar_Scalar_Same :=
  s_scalar_Scalar_Same (cs_cons (k_scalar_Scalar_Least hg_scalar_lower hg_scalar_Scalar_Least) cs_nil)

abbrev A_scalar_fromBytes : Ag (List Int) := (.one (.ints .u8 32))
abbrev B_scalar_fromBytes : Pt (List Int) := (.ints .u64 4)
def ct_scalar_fromBytes (N : Nat) : Ct := fct A_scalar_fromBytes B_scalar_fromBytes fun x => scalar_fromBytes N x
def cs_scalar_fromBytes (N : Nat) : List (FuncId × Ct) := []
def gs_scalar_fromBytes : List Gv := []
def scalar_fromBytes_l0_H : Fm ((Unit × Unit × List Int × Int)) ((Unit × List Int)) := ⟨(.cons 2 (.lit (.ptr 1 [] 24)) (.cons 3 (.lit (.ptr 2 [] 24)) (.cons 6 (.ints .u8 32) (.one 7 (.int .i64))))), (.cons 1 (.lit (.ints .u64 4 [0, 0, 0, 0])) (.one 2 (.ints .u64 4)))⟩
def scalar_fromBytes_l0_O : Fm ((Unit × Unit)) ((Unit × List Int)) := ⟨(.cons 2 (.lit (.ptr 1 [] 24)) (.one 3 (.lit (.ptr 2 [] 24)))), (.cons 1 (.lit (.ints .u64 4 [0, 0, 0, 0])) (.one 2 (.ints .u64 4)))⟩
def scalar_fromBytes_l0_T : Fm (Unit) (Unit) := ⟨.nil, .nil⟩
noncomputable def ls_scalar_fromBytes (N : Nat) : List (Nat × Lf) := [(0, loopCt scalar_fromBytes_l0_H scalar_fromBytes_l0_O scalar_fromBytes_l0_T 5 (scalar_fromBytes_l0 N) N)]
theorem scalar_fromBytes_l0_step (N : Nat) : StepIs Tryd.prog (cxOf Tryd.f65 (cs_scalar_fromBytes N) gs_scalar_fromBytes 0) (ls_scalar_fromBytes N) Tryd.f65 0 5 scalar_fromBytes_l0_H scalar_fromBytes_l0_O scalar_fromBytes_l0_T (scalar_fromBytes_l0 N) := by
  intro v; kernel_rfl
theorem r_scalar_fromBytes (N : Nat) : RunIs Tryd.prog (cs_scalar_fromBytes N) gs_scalar_fromBytes 0 (ls_scalar_fromBytes N) Tryd.f65 A_scalar_fromBytes B_scalar_fromBytes (fun x => scalar_fromBytes N x) := by
  intro x; kernel_rfl
theorem s_scalar_fromBytes {w0 : World} (N : Nat)  (hcs : ∀ x ∈ cs_scalar_fromBytes N, SoundAt Tryd.prog w0 x.1 x.2) : SoundAt Tryd.prog w0 65 (ct_scalar_fromBytes N) := by
  have L0 : ∀ w : Base, w.g = w0 → LoopOK Tryd.prog (cxOf Tryd.f65 (cs_scalar_fromBytes N) gs_scalar_fromBytes 0) w 0 (.loop (loopBody Tryd.f65 0)) (loopCt scalar_fromBytes_l0_H scalar_fromBytes_l0_O scalar_fromBytes_l0_T 5 (scalar_fromBytes_l0 N) N) :=
    loop_printed hcs (ls := ls_scalar_fromBytes N) (n := 100) (by kernel_rfl) (scalar_fromBytes_l0_step N) N fun w hw => loopsOK_list (lp_no (by kernel_rfl) lp_nil)
  exact fn_printed hcs (glob_nil _ _) Tryd.func65 (by kernel_rfl) (by kernel_rfl) (S := 0) (fun w hw => loopsOK_list (lp_yes (L0 w hw) (by kernel_rfl) lp_nil)) (fun _ => rfl) (r_scalar_fromBytes N)
theorem k_scalar_fromBytes {w0 : World} (N : Nat)  : SoundAt Tryd.prog w0 65 (ct_scalar_fromBytes N) :=
  s_scalar_fromBytes N cs_nil

abbrev A_scalar_Decode : Ag (List Int) := (.one (.ints .u8 32))
abbrev B_scalar_Decode : Pt ((List Int × Int)) := (.tup (.cons (.ints .u64 4) (.one (.int .i64))))
def ct_scalar_Decode (N : Nat) : Ct := fct A_scalar_Decode B_scalar_Decode fun x => scalar_Decode N x
def cs_scalar_Decode (N : Nat) : List (FuncId × Ct) := [(49, ct_scalar_Scalar_Least), (65, (ct_scalar_fromBytes N))]
def gs_scalar_Decode : List Gv := []
noncomputable def ls_scalar_Decode (N : Nat) : List (Nat × Lf) := []
theorem r_scalar_Decode (N : Nat) : RunIs Tryd.prog (cs_scalar_Decode N) gs_scalar_Decode 0 (ls_scalar_Decode N) Tryd.f52 A_scalar_Decode B_scalar_Decode (fun x => scalar_Decode N x) := by
  intro x; kernel_rfl
theorem s_scalar_Decode {w0 : World} (N : Nat)  (hcs : ∀ x ∈ cs_scalar_Decode N, SoundAt Tryd.prog w0 x.1 x.2) : SoundAt Tryd.prog w0 52 (ct_scalar_Decode N) := by
  exact fn_printed hcs (glob_nil _ _) Tryd.func52 (by kernel_rfl) (by kernel_rfl) (S := 0) (fun w _ => loopsOK_nil _) (fun _ => rfl) (r_scalar_Decode N)
theorem k_scalar_Decode {w0 : World} (N : Nat)  (hg_scalar_lower : GlobOK Tryd.prog w0 gs_scalar_lower) (hg_scalar_Scalar_Least : GlobOK Tryd.prog w0 gs_scalar_Scalar_Least) : SoundAt Tryd.prog w0 52 (ct_scalar_Decode N) :=
  s_scalar_Decode N (cs_cons (k_scalar_Scalar_Least hg_scalar_lower hg_scalar_Scalar_Least) (cs_cons (k_scalar_fromBytes N) cs_nil))

abbrev A_slices_Clone_of_byte_byte : Ag (((Nat × List Int) × Unit)) := (.one (.tup (.cons (.lst .u8) (.one (.lit (.clo 5 []))))))
abbrev B_slices_Clone_of_byte_byte : Pt (((Nat × List Int) × Unit)) := (.tup (.cons (.lst .u8) (.one (.lit (.clo 5 [])))))
def ct_slices_Clone_of_byte_byte : Ct := fct A_slices_Clone_of_byte_byte B_slices_Clone_of_byte_byte fun x => slices_Clone_of_byte_byte x
theorem r0_slices_Clone_of_byte_byte : run Tryd.prog (fun _ => none) (glAt [] 0) 1 [] (fun _ => none) 100 Tryd.f44 [.nils] none B_slices_Clone_of_byte_byte.get = slices_Clone_of_byte_byte ((0, []), ()) := by
  kernel_rfl
theorem r1_slices_Clone_of_byte_byte : ∀ m l, run Tryd.prog (fun _ => none) (glAt [] 0) 1 [(0, .ints .u8 m l)] (fun _ => none) 100 Tryd.f44 [.gp 0 0 m 5 true 0] none B_slices_Clone_of_byte_byte.get = slices_Clone_of_byte_byte ((m, l), ()) := by
  intro m l; kernel_rfl
theorem k_slices_Clone_of_byte_byte {w0 : World} : SoundAt Tryd.prog w0 44 ct_slices_Clone_of_byte_byte :=
  fn_nil (n := 100) Tryd.func44 (by kernel_rfl) (by kernel_rfl) r0_slices_Clone_of_byte_byte r1_slices_Clone_of_byte_byte

def fA_p_wire_Reader_is : Ag (Unit) := (.one (.lit (.ptr 32 [] 104)))
def fR_p_wire_Reader_is : Ent (((Bool × (Nat × Nat × Nat) × Int) × (Nat × List Int))) := (.cons 32 (.agg (.cons .bool (.cons (.gpw 33 5) (.one (.int .i64))))) (.one 33 (.lst .u8)))
def fM_p_wire_Reader_is : Ent (Unit) := .nil
def fB_p_wire_Reader_is : Pt (Bool) := .bool
def fE_p_wire_Reader_is : Ent (Unit) := .nil
abbrev SIO_p_wire_Reader_is (w0 : World) : Prop := SoundIo Tryd.prog w0 57 64 88 fA_p_wire_Reader_is fR_p_wire_Reader_is fM_p_wire_Reader_is fB_p_wire_Reader_is fE_p_wire_Reader_is [32, 33] (fun x => p_wire_Reader_is x.1 x.2.1 x.2.2)
def cs_p_wire_Reader_is : List (FuncId × Ct) := []
def gs_p_wire_Reader_is : List Gv := []
noncomputable abbrev is_p_wire_Reader_is : List (FuncId × Inl) := []
theorem isok_p_wire_Reader_is {w0 : World} (hcs : ∀ x ∈ cs_p_wire_Reader_is, SoundAt Tryd.prog w0 x.1 x.2) : AllOK Tryd.prog w0 gs_p_wire_Reader_is 64 (is_p_wire_Reader_is) := allok_nil
noncomputable def ls_p_wire_Reader_is : List (Nat × Lf) := []
theorem r_p_wire_Reader_is : IoRunIs Tryd.prog (cs_p_wire_Reader_is) gs_p_wire_Reader_is 64 (is_p_wire_Reader_is) (ls_p_wire_Reader_is) Tryd.f57 88 fA_p_wire_Reader_is fR_p_wire_Reader_is fM_p_wire_Reader_is fB_p_wire_Reader_is fE_p_wire_Reader_is [32, 33] (fun x => p_wire_Reader_is x.1 x.2.1 x.2.2) := by
  intro x; kernel_rfl
theorem s_p_wire_Reader_is {w0 : World}  (hcs : ∀ x ∈ cs_p_wire_Reader_is, SoundAt Tryd.prog w0 x.1 x.2) : SIO_p_wire_Reader_is w0 := by
  exact io_printed hcs (glob_nil _ _) (isok_p_wire_Reader_is hcs) Tryd.func57 (by kernel_rfl) (by kernel_rfl) (fun w _ _ => loopsOK_nil _) (by kernel_rfl) (r_p_wire_Reader_is)
theorem k_p_wire_Reader_is {w0 : World}  : SIO_p_wire_Reader_is w0 :=
  s_p_wire_Reader_is cs_nil

def fA_p_wire_Reader_sound : Ag (Unit) := (.one (.lit (.ptr 32 [] 104)))
def fR_p_wire_Reader_sound : Ent (((Bool × (Nat × Nat × Nat) × Int) × (Nat × List Int))) := (.cons 32 (.agg (.cons .bool (.cons (.gpw 33 5) (.one (.int .i64))))) (.one 33 (.lst .u8)))
def fM_p_wire_Reader_sound : Ent (Unit) := .nil
def fB_p_wire_Reader_sound : Pt (Bool) := .bool
def fE_p_wire_Reader_sound : Ent (Unit) := .nil
abbrev SIO_p_wire_Reader_sound (w0 : World) : Prop := SoundIo Tryd.prog w0 45 64 88 fA_p_wire_Reader_sound fR_p_wire_Reader_sound fM_p_wire_Reader_sound fB_p_wire_Reader_sound fE_p_wire_Reader_sound [32, 33] (fun x => p_wire_Reader_sound x.1 x.2.1 x.2.2)
def cs_p_wire_Reader_sound : List (FuncId × Ct) := []
def gs_p_wire_Reader_sound : List Gv := []
noncomputable abbrev is0_p_wire_Reader_sound : List (FuncId × Inl) := ((57, (Inl.ct Tryd.prog 64 64 88 fA_p_wire_Reader_is fR_p_wire_Reader_is fM_p_wire_Reader_is fB_p_wire_Reader_is fE_p_wire_Reader_is [32, 33] (fun x => p_wire_Reader_is x.1 x.2.1 x.2.2))) :: [])
theorem isok0_p_wire_Reader_sound {w0 : World} (hcs : ∀ x ∈ cs_p_wire_Reader_sound, SoundAt Tryd.prog w0 x.1 x.2) (hf57 : SIO_p_wire_Reader_is w0) : AllOK Tryd.prog w0 gs_p_wire_Reader_sound 64 (is0_p_wire_Reader_sound) := allok_cons (one_ct hf57 (by kernel_rfl) rfl) allok_nil
noncomputable abbrev is_p_wire_Reader_sound : List (FuncId × Inl) := (is0_p_wire_Reader_sound)
theorem isok_p_wire_Reader_sound {w0 : World} (hcs : ∀ x ∈ cs_p_wire_Reader_sound, SoundAt Tryd.prog w0 x.1 x.2) (hf57 : SIO_p_wire_Reader_is w0) : AllOK Tryd.prog w0 gs_p_wire_Reader_sound 64 (is_p_wire_Reader_sound) := (isok0_p_wire_Reader_sound hcs hf57)
noncomputable def ls_p_wire_Reader_sound : List (Nat × Lf) := []
theorem r_p_wire_Reader_sound : IoRunIs Tryd.prog (cs_p_wire_Reader_sound) gs_p_wire_Reader_sound 64 (is_p_wire_Reader_sound) (ls_p_wire_Reader_sound) Tryd.f45 88 fA_p_wire_Reader_sound fR_p_wire_Reader_sound fM_p_wire_Reader_sound fB_p_wire_Reader_sound fE_p_wire_Reader_sound [32, 33] (fun x => p_wire_Reader_sound x.1 x.2.1 x.2.2) := by
  intro x; kernel_rfl
theorem s_p_wire_Reader_sound {w0 : World}  (hcs : ∀ x ∈ cs_p_wire_Reader_sound, SoundAt Tryd.prog w0 x.1 x.2) (hf57 : SIO_p_wire_Reader_is w0) : SIO_p_wire_Reader_sound w0 := by
  exact io_printed hcs (glob_nil _ _) (isok_p_wire_Reader_sound hcs hf57) Tryd.func45 (by kernel_rfl) (by kernel_rfl) (fun w _ _ => loopsOK_nil _) (by kernel_rfl) (r_p_wire_Reader_sound)
theorem k_p_wire_Reader_sound {w0 : World}  : SIO_p_wire_Reader_sound w0 :=
  s_p_wire_Reader_sound cs_nil (k_p_wire_Reader_is)

def fA_p_wire_Reader_Fail : Ag ((Unit × Int)) := (.cons (.lit (.ptr 64 [] 104)) (.one (.int .i64)))
def fR_p_wire_Reader_Fail : Ent ((Nat × List Int)) := (.one 32 (.lst .u8))
def fM_p_wire_Reader_Fail : Ent ((Bool × (Nat × Nat × Nat) × Int)) := (.one 64 (.agg (.cons .bool (.cons (.gpw 32 5) (.one (.int .i64))))))
def fB_p_wire_Reader_Fail : Pt (Unit) := (.tup .nil)
def fE_p_wire_Reader_Fail : Ent ((Bool × (Nat × Nat × Nat) × Int)) := (.one 64 (.agg (.cons .bool (.cons (.gpw 32 5) (.one (.int .i64))))))
abbrev SIO_p_wire_Reader_Fail (w0 : World) : Prop := SoundIo Tryd.prog w0 48 64 89 fA_p_wire_Reader_Fail fR_p_wire_Reader_Fail fM_p_wire_Reader_Fail fB_p_wire_Reader_Fail fE_p_wire_Reader_Fail [32, 64] (fun x => p_wire_Reader_Fail x.1 x.2.1 x.2.2)
def cs_p_wire_Reader_Fail : List (FuncId × Ct) := []
def gs_p_wire_Reader_Fail : List Gv := []
noncomputable abbrev is0_p_wire_Reader_Fail : List (FuncId × Inl) := ((45, (Inl.ct Tryd.prog 64 64 88 fA_p_wire_Reader_sound fR_p_wire_Reader_sound fM_p_wire_Reader_sound fB_p_wire_Reader_sound fE_p_wire_Reader_sound [32, 33] (fun x => p_wire_Reader_sound x.1 x.2.1 x.2.2))) :: [])
theorem isok0_p_wire_Reader_Fail {w0 : World} (hcs : ∀ x ∈ cs_p_wire_Reader_Fail, SoundAt Tryd.prog w0 x.1 x.2) (hf45 : SIO_p_wire_Reader_sound w0) : AllOK Tryd.prog w0 gs_p_wire_Reader_Fail 64 (is0_p_wire_Reader_Fail) := allok_cons (one_ct hf45 (by kernel_rfl) rfl) allok_nil
noncomputable abbrev is_p_wire_Reader_Fail : List (FuncId × Inl) := (is0_p_wire_Reader_Fail)
theorem isok_p_wire_Reader_Fail {w0 : World} (hcs : ∀ x ∈ cs_p_wire_Reader_Fail, SoundAt Tryd.prog w0 x.1 x.2) (hf45 : SIO_p_wire_Reader_sound w0) : AllOK Tryd.prog w0 gs_p_wire_Reader_Fail 64 (is_p_wire_Reader_Fail) := (isok0_p_wire_Reader_Fail hcs hf45)
noncomputable def ls_p_wire_Reader_Fail : List (Nat × Lf) := []
theorem r_p_wire_Reader_Fail : IoRunIs Tryd.prog (cs_p_wire_Reader_Fail) gs_p_wire_Reader_Fail 64 (is_p_wire_Reader_Fail) (ls_p_wire_Reader_Fail) Tryd.f48 89 fA_p_wire_Reader_Fail fR_p_wire_Reader_Fail fM_p_wire_Reader_Fail fB_p_wire_Reader_Fail fE_p_wire_Reader_Fail [32, 64] (fun x => p_wire_Reader_Fail x.1 x.2.1 x.2.2) := by
  intro x; kernel_rfl
theorem s_p_wire_Reader_Fail {w0 : World}  (hcs : ∀ x ∈ cs_p_wire_Reader_Fail, SoundAt Tryd.prog w0 x.1 x.2) (hf45 : SIO_p_wire_Reader_sound w0) : SIO_p_wire_Reader_Fail w0 := by
  exact io_printed hcs (glob_nil _ _) (isok_p_wire_Reader_Fail hcs hf45) Tryd.func48 (by kernel_rfl) (by kernel_rfl) (fun w _ _ => loopsOK_nil _) (by kernel_rfl) (r_p_wire_Reader_Fail)
theorem k_p_wire_Reader_Fail {w0 : World}  : SIO_p_wire_Reader_Fail w0 :=
  s_p_wire_Reader_Fail cs_nil (k_p_wire_Reader_sound)

def fA_p_wire_Reader_count : Ag (Unit) := (.one (.lit (.ptr 64 [] 104)))
def fR_p_wire_Reader_count : Ent ((Nat × List Int)) := (.one 32 (.lst .u8))
def fM_p_wire_Reader_count : Ent ((Bool × (Nat × Nat × Nat) × Int)) := (.one 64 (.agg (.cons .bool (.cons (.gpw 32 5) (.one (.int .i64))))))
def fB_p_wire_Reader_count : Pt (Int) := (.int .u64)
def fE_p_wire_Reader_count : Ent ((Bool × (Nat × Nat × Nat) × Int)) := (.one 64 (.agg (.cons .bool (.cons (.gpw 32 5) (.one (.int .i64))))))
abbrev SIO_p_wire_Reader_count (w0 : World) : Prop := SoundIo Tryd.prog w0 46 64 89 fA_p_wire_Reader_count fR_p_wire_Reader_count fM_p_wire_Reader_count fB_p_wire_Reader_count fE_p_wire_Reader_count [32, 64] (fun x => p_wire_Reader_count x.1 x.2.1 x.2.2)
def cs_p_wire_Reader_count : List (FuncId × Ct) := []
def gs_p_wire_Reader_count : List Gv := []
noncomputable abbrev is0_p_wire_Reader_count : List (FuncId × Inl) := ((48, (Inl.ct Tryd.prog 64 64 89 fA_p_wire_Reader_Fail fR_p_wire_Reader_Fail fM_p_wire_Reader_Fail fB_p_wire_Reader_Fail fE_p_wire_Reader_Fail [32, 64] (fun x => p_wire_Reader_Fail x.1 x.2.1 x.2.2))) :: [])
theorem isok0_p_wire_Reader_count {w0 : World} (hcs : ∀ x ∈ cs_p_wire_Reader_count, SoundAt Tryd.prog w0 x.1 x.2) (hf48 : SIO_p_wire_Reader_Fail w0) : AllOK Tryd.prog w0 gs_p_wire_Reader_count 64 (is0_p_wire_Reader_count) := allok_cons (one_ct hf48 (by kernel_rfl) rfl) allok_nil
noncomputable abbrev is_p_wire_Reader_count : List (FuncId × Inl) := (is0_p_wire_Reader_count)
theorem isok_p_wire_Reader_count {w0 : World} (hcs : ∀ x ∈ cs_p_wire_Reader_count, SoundAt Tryd.prog w0 x.1 x.2) (hf48 : SIO_p_wire_Reader_Fail w0) : AllOK Tryd.prog w0 gs_p_wire_Reader_count 64 (is_p_wire_Reader_count) := (isok0_p_wire_Reader_count hcs hf48)
noncomputable def ls_p_wire_Reader_count : List (Nat × Lf) := []
theorem r_p_wire_Reader_count : IoRunIs Tryd.prog (cs_p_wire_Reader_count) gs_p_wire_Reader_count 64 (is_p_wire_Reader_count) (ls_p_wire_Reader_count) Tryd.f46 89 fA_p_wire_Reader_count fR_p_wire_Reader_count fM_p_wire_Reader_count fB_p_wire_Reader_count fE_p_wire_Reader_count [32, 64] (fun x => p_wire_Reader_count x.1 x.2.1 x.2.2) := by
  intro x; kernel_rfl
theorem s_p_wire_Reader_count {w0 : World}  (hcs : ∀ x ∈ cs_p_wire_Reader_count, SoundAt Tryd.prog w0 x.1 x.2) (hf48 : SIO_p_wire_Reader_Fail w0) : SIO_p_wire_Reader_count w0 := by
  exact io_printed hcs (glob_nil _ _) (isok_p_wire_Reader_count hcs hf48) Tryd.func46 (by kernel_rfl) (by kernel_rfl) (fun w _ _ => loopsOK_nil _) (by kernel_rfl) (r_p_wire_Reader_count)
theorem k_p_wire_Reader_count {w0 : World}  : SIO_p_wire_Reader_count w0 :=
  s_p_wire_Reader_count cs_nil (k_p_wire_Reader_Fail)

def fA_p_wire_Reader_Number : Ag ((Unit × Int)) := (.cons (.lit (.ptr 64 [] 104)) (.one (.int .u64)))
def fR_p_wire_Reader_Number : Ent ((Nat × List Int)) := (.one 32 (.lst .u8))
def fM_p_wire_Reader_Number : Ent ((Bool × (Nat × Nat × Nat) × Int)) := (.one 64 (.agg (.cons .bool (.cons (.gpw 32 5) (.one (.int .i64))))))
def fB_p_wire_Reader_Number : Pt (Int) := (.int .u64)
def fE_p_wire_Reader_Number : Ent ((Bool × (Nat × Nat × Nat) × Int)) := (.one 64 (.agg (.cons .bool (.cons (.gpw 32 5) (.one (.int .i64))))))
abbrev SIO_p_wire_Reader_Number (w0 : World) : Prop := SoundIo Tryd.prog w0 24 64 89 fA_p_wire_Reader_Number fR_p_wire_Reader_Number fM_p_wire_Reader_Number fB_p_wire_Reader_Number fE_p_wire_Reader_Number [32, 64] (fun x => p_wire_Reader_Number x.1 x.2.1 x.2.2)
def cs_p_wire_Reader_Number : List (FuncId × Ct) := []
def gs_p_wire_Reader_Number : List Gv := []
noncomputable abbrev is0_p_wire_Reader_Number : List (FuncId × Inl) := ((45, (Inl.ct Tryd.prog 64 64 88 fA_p_wire_Reader_sound fR_p_wire_Reader_sound fM_p_wire_Reader_sound fB_p_wire_Reader_sound fE_p_wire_Reader_sound [32, 33] (fun x => p_wire_Reader_sound x.1 x.2.1 x.2.2))) :: [])
theorem isok0_p_wire_Reader_Number {w0 : World} (hcs : ∀ x ∈ cs_p_wire_Reader_Number, SoundAt Tryd.prog w0 x.1 x.2) (hf45 : SIO_p_wire_Reader_sound w0) (hf46 : SIO_p_wire_Reader_count w0) (hf48 : SIO_p_wire_Reader_Fail w0) : AllOK Tryd.prog w0 gs_p_wire_Reader_Number 64 (is0_p_wire_Reader_Number) := allok_cons (one_ct hf45 (by kernel_rfl) rfl) allok_nil
noncomputable abbrev is1_p_wire_Reader_Number : List (FuncId × Inl) := ((46, (Inl.ct Tryd.prog 64 64 89 fA_p_wire_Reader_count fR_p_wire_Reader_count fM_p_wire_Reader_count fB_p_wire_Reader_count fE_p_wire_Reader_count [32, 64] (fun x => p_wire_Reader_count x.1 x.2.1 x.2.2))) :: (is0_p_wire_Reader_Number))
theorem isok1_p_wire_Reader_Number {w0 : World} (hcs : ∀ x ∈ cs_p_wire_Reader_Number, SoundAt Tryd.prog w0 x.1 x.2) (hf45 : SIO_p_wire_Reader_sound w0) (hf46 : SIO_p_wire_Reader_count w0) (hf48 : SIO_p_wire_Reader_Fail w0) : AllOK Tryd.prog w0 gs_p_wire_Reader_Number 64 (is1_p_wire_Reader_Number) := allok_cons (one_ct hf46 (by kernel_rfl) rfl) (isok0_p_wire_Reader_Number hcs hf45 hf46 hf48)
noncomputable abbrev is2_p_wire_Reader_Number : List (FuncId × Inl) := ((48, (Inl.ct Tryd.prog 64 64 89 fA_p_wire_Reader_Fail fR_p_wire_Reader_Fail fM_p_wire_Reader_Fail fB_p_wire_Reader_Fail fE_p_wire_Reader_Fail [32, 64] (fun x => p_wire_Reader_Fail x.1 x.2.1 x.2.2))) :: (is1_p_wire_Reader_Number))
theorem isok2_p_wire_Reader_Number {w0 : World} (hcs : ∀ x ∈ cs_p_wire_Reader_Number, SoundAt Tryd.prog w0 x.1 x.2) (hf45 : SIO_p_wire_Reader_sound w0) (hf46 : SIO_p_wire_Reader_count w0) (hf48 : SIO_p_wire_Reader_Fail w0) : AllOK Tryd.prog w0 gs_p_wire_Reader_Number 64 (is2_p_wire_Reader_Number) := allok_cons (one_ct hf48 (by kernel_rfl) rfl) (isok1_p_wire_Reader_Number hcs hf45 hf46 hf48)
noncomputable abbrev is3_p_wire_Reader_Number : List (FuncId × Inl) := ((47, (inlOf Tryd.prog (cs_p_wire_Reader_Number) gs_p_wire_Reader_Number 64 100 (is2_p_wire_Reader_Number) Tryd.f47)) :: (is2_p_wire_Reader_Number))
theorem isok3_p_wire_Reader_Number {w0 : World} (hcs : ∀ x ∈ cs_p_wire_Reader_Number, SoundAt Tryd.prog w0 x.1 x.2) (hf45 : SIO_p_wire_Reader_sound w0) (hf46 : SIO_p_wire_Reader_count w0) (hf48 : SIO_p_wire_Reader_Fail w0) : AllOK Tryd.prog w0 gs_p_wire_Reader_Number 64 (is3_p_wire_Reader_Number) := allok_cons (one_of hcs (isok2_p_wire_Reader_Number hcs hf45 hf46 hf48) Tryd.func47 (by kernel_rfl) (by kernel_rfl)) (isok2_p_wire_Reader_Number hcs hf45 hf46 hf48)
noncomputable abbrev is_p_wire_Reader_Number : List (FuncId × Inl) := (is3_p_wire_Reader_Number)
theorem isok_p_wire_Reader_Number {w0 : World} (hcs : ∀ x ∈ cs_p_wire_Reader_Number, SoundAt Tryd.prog w0 x.1 x.2) (hf45 : SIO_p_wire_Reader_sound w0) (hf46 : SIO_p_wire_Reader_count w0) (hf48 : SIO_p_wire_Reader_Fail w0) : AllOK Tryd.prog w0 gs_p_wire_Reader_Number 64 (is_p_wire_Reader_Number) := (isok3_p_wire_Reader_Number hcs hf45 hf46 hf48)
noncomputable def ls_p_wire_Reader_Number : List (Nat × Lf) := []
theorem r_p_wire_Reader_Number : IoRunIs Tryd.prog (cs_p_wire_Reader_Number) gs_p_wire_Reader_Number 64 (is_p_wire_Reader_Number) (ls_p_wire_Reader_Number) Tryd.f24 89 fA_p_wire_Reader_Number fR_p_wire_Reader_Number fM_p_wire_Reader_Number fB_p_wire_Reader_Number fE_p_wire_Reader_Number [32, 64] (fun x => p_wire_Reader_Number x.1 x.2.1 x.2.2) := by
  intro x; kernel_rfl
theorem s_p_wire_Reader_Number {w0 : World}  (hcs : ∀ x ∈ cs_p_wire_Reader_Number, SoundAt Tryd.prog w0 x.1 x.2) (hf45 : SIO_p_wire_Reader_sound w0) (hf46 : SIO_p_wire_Reader_count w0) (hf48 : SIO_p_wire_Reader_Fail w0) : SIO_p_wire_Reader_Number w0 := by
  exact io_printed hcs (glob_nil _ _) (isok_p_wire_Reader_Number hcs hf45 hf46 hf48) Tryd.func24 (by kernel_rfl) (by kernel_rfl) (fun w _ _ => loopsOK_nil _) (by kernel_rfl) (r_p_wire_Reader_Number)
theorem k_p_wire_Reader_Number {w0 : World}  : SIO_p_wire_Reader_Number w0 :=
  s_p_wire_Reader_Number cs_nil (k_p_wire_Reader_sound) (k_p_wire_Reader_count) (k_p_wire_Reader_Fail)

def fA_p_wire_Reader_Bytes32 : Ag (Unit) := (.one (.lit (.ptr 64 [] 104)))
def fR_p_wire_Reader_Bytes32 : Ent ((Nat × List Int)) := (.one 32 (.lst .u8))
def fM_p_wire_Reader_Bytes32 : Ent ((Bool × (Nat × Nat × Nat) × Int)) := (.one 64 (.agg (.cons .bool (.cons (.gpw 32 5) (.one (.int .i64))))))
def fB_p_wire_Reader_Bytes32 : Pt (List Int) := (.ints .u8 32)
def fE_p_wire_Reader_Bytes32 : Ent ((Bool × (Nat × Nat × Nat) × Int)) := (.one 64 (.agg (.cons .bool (.cons (.gpw 32 5) (.one (.int .i64))))))
abbrev SIO_p_wire_Reader_Bytes32 (w0 : World) : Prop := SoundIo Tryd.prog w0 51 64 89 fA_p_wire_Reader_Bytes32 fR_p_wire_Reader_Bytes32 fM_p_wire_Reader_Bytes32 fB_p_wire_Reader_Bytes32 fE_p_wire_Reader_Bytes32 [32, 64] (fun x => p_wire_Reader_Bytes32 x.1 x.2.1 x.2.2)
def cs_p_wire_Reader_Bytes32 : List (FuncId × Ct) := []
def gs_p_wire_Reader_Bytes32 : List Gv := []
noncomputable abbrev is0_p_wire_Reader_Bytes32 : List (FuncId × Inl) := ((45, (Inl.ct Tryd.prog 64 64 88 fA_p_wire_Reader_sound fR_p_wire_Reader_sound fM_p_wire_Reader_sound fB_p_wire_Reader_sound fE_p_wire_Reader_sound [32, 33] (fun x => p_wire_Reader_sound x.1 x.2.1 x.2.2))) :: [])
theorem isok0_p_wire_Reader_Bytes32 {w0 : World} (hcs : ∀ x ∈ cs_p_wire_Reader_Bytes32, SoundAt Tryd.prog w0 x.1 x.2) (hf45 : SIO_p_wire_Reader_sound w0) (hf48 : SIO_p_wire_Reader_Fail w0) : AllOK Tryd.prog w0 gs_p_wire_Reader_Bytes32 64 (is0_p_wire_Reader_Bytes32) := allok_cons (one_ct hf45 (by kernel_rfl) rfl) allok_nil
noncomputable abbrev is1_p_wire_Reader_Bytes32 : List (FuncId × Inl) := ((48, (Inl.ct Tryd.prog 64 64 89 fA_p_wire_Reader_Fail fR_p_wire_Reader_Fail fM_p_wire_Reader_Fail fB_p_wire_Reader_Fail fE_p_wire_Reader_Fail [32, 64] (fun x => p_wire_Reader_Fail x.1 x.2.1 x.2.2))) :: (is0_p_wire_Reader_Bytes32))
theorem isok1_p_wire_Reader_Bytes32 {w0 : World} (hcs : ∀ x ∈ cs_p_wire_Reader_Bytes32, SoundAt Tryd.prog w0 x.1 x.2) (hf45 : SIO_p_wire_Reader_sound w0) (hf48 : SIO_p_wire_Reader_Fail w0) : AllOK Tryd.prog w0 gs_p_wire_Reader_Bytes32 64 (is1_p_wire_Reader_Bytes32) := allok_cons (one_ct hf48 (by kernel_rfl) rfl) (isok0_p_wire_Reader_Bytes32 hcs hf45 hf48)
noncomputable abbrev is_p_wire_Reader_Bytes32 : List (FuncId × Inl) := (is1_p_wire_Reader_Bytes32)
theorem isok_p_wire_Reader_Bytes32 {w0 : World} (hcs : ∀ x ∈ cs_p_wire_Reader_Bytes32, SoundAt Tryd.prog w0 x.1 x.2) (hf45 : SIO_p_wire_Reader_sound w0) (hf48 : SIO_p_wire_Reader_Fail w0) : AllOK Tryd.prog w0 gs_p_wire_Reader_Bytes32 64 (is_p_wire_Reader_Bytes32) := (isok1_p_wire_Reader_Bytes32 hcs hf45 hf48)
noncomputable def ls_p_wire_Reader_Bytes32 : List (Nat × Lf) := []
theorem r_p_wire_Reader_Bytes32 : IoRunIs Tryd.prog (cs_p_wire_Reader_Bytes32) gs_p_wire_Reader_Bytes32 64 (is_p_wire_Reader_Bytes32) (ls_p_wire_Reader_Bytes32) Tryd.f51 89 fA_p_wire_Reader_Bytes32 fR_p_wire_Reader_Bytes32 fM_p_wire_Reader_Bytes32 fB_p_wire_Reader_Bytes32 fE_p_wire_Reader_Bytes32 [32, 64] (fun x => p_wire_Reader_Bytes32 x.1 x.2.1 x.2.2) := by
  intro x; kernel_rfl
theorem s_p_wire_Reader_Bytes32 {w0 : World}  (hcs : ∀ x ∈ cs_p_wire_Reader_Bytes32, SoundAt Tryd.prog w0 x.1 x.2) (hf45 : SIO_p_wire_Reader_sound w0) (hf48 : SIO_p_wire_Reader_Fail w0) : SIO_p_wire_Reader_Bytes32 w0 := by
  exact io_printed hcs (glob_nil _ _) (isok_p_wire_Reader_Bytes32 hcs hf45 hf48) Tryd.func51 (by kernel_rfl) (by kernel_rfl) (fun w _ _ => loopsOK_nil _) (by kernel_rfl) (r_p_wire_Reader_Bytes32)
theorem k_p_wire_Reader_Bytes32 {w0 : World}  : SIO_p_wire_Reader_Bytes32 w0 :=
  s_p_wire_Reader_Bytes32 cs_nil (k_p_wire_Reader_sound) (k_p_wire_Reader_Fail)

def fA_p_wire_Reader_Scalar : Ag (Unit) := (.one (.lit (.ptr 64 [] 104)))
def fR_p_wire_Reader_Scalar : Ent ((Nat × List Int)) := (.one 32 (.lst .u8))
def fM_p_wire_Reader_Scalar : Ent ((Bool × (Nat × Nat × Nat) × Int)) := (.one 64 (.agg (.cons .bool (.cons (.gpw 32 5) (.one (.int .i64))))))
def fB_p_wire_Reader_Scalar : Pt (List Int) := (.ints .u64 4)
def fE_p_wire_Reader_Scalar : Ent ((Bool × (Nat × Nat × Nat) × Int)) := (.one 64 (.agg (.cons .bool (.cons (.gpw 32 5) (.one (.int .i64))))))
abbrev SIO_p_wire_Reader_Scalar (w0 : World) (N : Nat) : Prop := SoundIo Tryd.prog w0 34 64 89 fA_p_wire_Reader_Scalar fR_p_wire_Reader_Scalar fM_p_wire_Reader_Scalar fB_p_wire_Reader_Scalar fE_p_wire_Reader_Scalar [32, 64] (fun x => p_wire_Reader_Scalar N x.1 x.2.1 x.2.2)
def cs_p_wire_Reader_Scalar (N : Nat) : List (FuncId × Ct) := [(52, (ct_scalar_Decode N))]
def gs_p_wire_Reader_Scalar : List Gv := []
noncomputable abbrev is0_p_wire_Reader_Scalar (N : Nat) : List (FuncId × Inl) := ((45, (Inl.ct Tryd.prog 64 64 88 fA_p_wire_Reader_sound fR_p_wire_Reader_sound fM_p_wire_Reader_sound fB_p_wire_Reader_sound fE_p_wire_Reader_sound [32, 33] (fun x => p_wire_Reader_sound x.1 x.2.1 x.2.2))) :: [])
theorem isok0_p_wire_Reader_Scalar {w0 : World} (N : Nat) (hcs : ∀ x ∈ cs_p_wire_Reader_Scalar N, SoundAt Tryd.prog w0 x.1 x.2) (hf45 : SIO_p_wire_Reader_sound w0) (hf51 : SIO_p_wire_Reader_Bytes32 w0) (hf48 : SIO_p_wire_Reader_Fail w0) : AllOK Tryd.prog w0 gs_p_wire_Reader_Scalar 64 (is0_p_wire_Reader_Scalar N) := allok_cons (one_ct hf45 (by kernel_rfl) rfl) allok_nil
noncomputable abbrev is1_p_wire_Reader_Scalar (N : Nat) : List (FuncId × Inl) := ((51, (Inl.ct Tryd.prog 64 64 89 fA_p_wire_Reader_Bytes32 fR_p_wire_Reader_Bytes32 fM_p_wire_Reader_Bytes32 fB_p_wire_Reader_Bytes32 fE_p_wire_Reader_Bytes32 [32, 64] (fun x => p_wire_Reader_Bytes32 x.1 x.2.1 x.2.2))) :: (is0_p_wire_Reader_Scalar N))
theorem isok1_p_wire_Reader_Scalar {w0 : World} (N : Nat) (hcs : ∀ x ∈ cs_p_wire_Reader_Scalar N, SoundAt Tryd.prog w0 x.1 x.2) (hf45 : SIO_p_wire_Reader_sound w0) (hf51 : SIO_p_wire_Reader_Bytes32 w0) (hf48 : SIO_p_wire_Reader_Fail w0) : AllOK Tryd.prog w0 gs_p_wire_Reader_Scalar 64 (is1_p_wire_Reader_Scalar N) := allok_cons (one_ct hf51 (by kernel_rfl) rfl) (isok0_p_wire_Reader_Scalar N hcs hf45 hf51 hf48)
noncomputable abbrev is2_p_wire_Reader_Scalar (N : Nat) : List (FuncId × Inl) := ((48, (Inl.ct Tryd.prog 64 64 89 fA_p_wire_Reader_Fail fR_p_wire_Reader_Fail fM_p_wire_Reader_Fail fB_p_wire_Reader_Fail fE_p_wire_Reader_Fail [32, 64] (fun x => p_wire_Reader_Fail x.1 x.2.1 x.2.2))) :: (is1_p_wire_Reader_Scalar N))
theorem isok2_p_wire_Reader_Scalar {w0 : World} (N : Nat) (hcs : ∀ x ∈ cs_p_wire_Reader_Scalar N, SoundAt Tryd.prog w0 x.1 x.2) (hf45 : SIO_p_wire_Reader_sound w0) (hf51 : SIO_p_wire_Reader_Bytes32 w0) (hf48 : SIO_p_wire_Reader_Fail w0) : AllOK Tryd.prog w0 gs_p_wire_Reader_Scalar 64 (is2_p_wire_Reader_Scalar N) := allok_cons (one_ct hf48 (by kernel_rfl) rfl) (isok1_p_wire_Reader_Scalar N hcs hf45 hf51 hf48)
noncomputable abbrev is3_p_wire_Reader_Scalar (N : Nat) : List (FuncId × Inl) := ((47, (inlOf Tryd.prog (cs_p_wire_Reader_Scalar N) gs_p_wire_Reader_Scalar 64 100 (is2_p_wire_Reader_Scalar N) Tryd.f47)) :: (is2_p_wire_Reader_Scalar N))
theorem isok3_p_wire_Reader_Scalar {w0 : World} (N : Nat) (hcs : ∀ x ∈ cs_p_wire_Reader_Scalar N, SoundAt Tryd.prog w0 x.1 x.2) (hf45 : SIO_p_wire_Reader_sound w0) (hf51 : SIO_p_wire_Reader_Bytes32 w0) (hf48 : SIO_p_wire_Reader_Fail w0) : AllOK Tryd.prog w0 gs_p_wire_Reader_Scalar 64 (is3_p_wire_Reader_Scalar N) := allok_cons (one_of hcs (isok2_p_wire_Reader_Scalar N hcs hf45 hf51 hf48) Tryd.func47 (by kernel_rfl) (by kernel_rfl)) (isok2_p_wire_Reader_Scalar N hcs hf45 hf51 hf48)
noncomputable abbrev is_p_wire_Reader_Scalar (N : Nat) : List (FuncId × Inl) := (is3_p_wire_Reader_Scalar N)
theorem isok_p_wire_Reader_Scalar {w0 : World} (N : Nat) (hcs : ∀ x ∈ cs_p_wire_Reader_Scalar N, SoundAt Tryd.prog w0 x.1 x.2) (hf45 : SIO_p_wire_Reader_sound w0) (hf51 : SIO_p_wire_Reader_Bytes32 w0) (hf48 : SIO_p_wire_Reader_Fail w0) : AllOK Tryd.prog w0 gs_p_wire_Reader_Scalar 64 (is_p_wire_Reader_Scalar N) := (isok3_p_wire_Reader_Scalar N hcs hf45 hf51 hf48)
noncomputable def ls_p_wire_Reader_Scalar (N : Nat) : List (Nat × Lf) := []
theorem r_p_wire_Reader_Scalar (N : Nat) : IoRunIs Tryd.prog (cs_p_wire_Reader_Scalar N) gs_p_wire_Reader_Scalar 64 (is_p_wire_Reader_Scalar N) (ls_p_wire_Reader_Scalar N) Tryd.f34 89 fA_p_wire_Reader_Scalar fR_p_wire_Reader_Scalar fM_p_wire_Reader_Scalar fB_p_wire_Reader_Scalar fE_p_wire_Reader_Scalar [32, 64] (fun x => p_wire_Reader_Scalar N x.1 x.2.1 x.2.2) := by
  intro x; kernel_rfl
theorem s_p_wire_Reader_Scalar {w0 : World} (N : Nat)  (hcs : ∀ x ∈ cs_p_wire_Reader_Scalar N, SoundAt Tryd.prog w0 x.1 x.2) (hf45 : SIO_p_wire_Reader_sound w0) (hf51 : SIO_p_wire_Reader_Bytes32 w0) (hf48 : SIO_p_wire_Reader_Fail w0) : SIO_p_wire_Reader_Scalar w0 N := by
  exact io_printed hcs (glob_nil _ _) (isok_p_wire_Reader_Scalar N hcs hf45 hf51 hf48) Tryd.func34 (by kernel_rfl) (by kernel_rfl) (fun w _ _ => loopsOK_nil _) (by kernel_rfl) (r_p_wire_Reader_Scalar N)
theorem k_p_wire_Reader_Scalar {w0 : World} (N : Nat)  (hg_scalar_lower : GlobOK Tryd.prog w0 gs_scalar_lower) (hg_scalar_Scalar_Least : GlobOK Tryd.prog w0 gs_scalar_Scalar_Least) : SIO_p_wire_Reader_Scalar w0 N :=
  s_p_wire_Reader_Scalar N (cs_cons (k_scalar_Decode N hg_scalar_lower hg_scalar_Scalar_Least) cs_nil) (k_p_wire_Reader_sound) (k_p_wire_Reader_Bytes32) (k_p_wire_Reader_Fail)

def fA_wire_Point_of_msm_Line : Ag (Unit) := (.one (.lit (.ptr 64 [] 104)))
def fR_wire_Point_of_msm_Line : Ent ((Nat × List Int)) := (.one 32 (.lst .u8))
def fM_wire_Point_of_msm_Line : Ent ((Bool × (Nat × Nat × Nat) × Int)) := (.one 64 (.agg (.cons .bool (.cons (.gpw 32 5) (.one (.int .i64))))))
def fB_wire_Point_of_msm_Line : Pt (List Int) := (.agg (.one (.ints .u64 4)))
def fE_wire_Point_of_msm_Line : Ent ((Bool × (Nat × Nat × Nat) × Int)) := (.one 64 (.agg (.cons .bool (.cons (.gpw 32 5) (.one (.int .i64))))))
abbrev SIO_wire_Point_of_msm_Line (w0 : World) (N : Nat) : Prop := SoundIo Tryd.prog w0 33 64 89 fA_wire_Point_of_msm_Line fR_wire_Point_of_msm_Line fM_wire_Point_of_msm_Line fB_wire_Point_of_msm_Line fE_wire_Point_of_msm_Line [32, 64] (fun x => wire_Point_of_msm_Line N x.1 x.2.1 x.2.2)
def cs_wire_Point_of_msm_Line (N : Nat) : List (FuncId × Ct) := [(52, (ct_scalar_Decode N))]
def gs_wire_Point_of_msm_Line : List Gv := []
noncomputable abbrev is0_wire_Point_of_msm_Line (N : Nat) : List (FuncId × Inl) := ((45, (Inl.ct Tryd.prog 64 64 88 fA_p_wire_Reader_sound fR_p_wire_Reader_sound fM_p_wire_Reader_sound fB_p_wire_Reader_sound fE_p_wire_Reader_sound [32, 33] (fun x => p_wire_Reader_sound x.1 x.2.1 x.2.2))) :: [])
theorem isok0_wire_Point_of_msm_Line {w0 : World} (N : Nat) (hcs : ∀ x ∈ cs_wire_Point_of_msm_Line N, SoundAt Tryd.prog w0 x.1 x.2) (hf45 : SIO_p_wire_Reader_sound w0) (hf51 : SIO_p_wire_Reader_Bytes32 w0) (hf48 : SIO_p_wire_Reader_Fail w0) : AllOK Tryd.prog w0 gs_wire_Point_of_msm_Line 64 (is0_wire_Point_of_msm_Line N) := allok_cons (one_ct hf45 (by kernel_rfl) rfl) allok_nil
noncomputable abbrev is1_wire_Point_of_msm_Line (N : Nat) : List (FuncId × Inl) := ((51, (Inl.ct Tryd.prog 64 64 89 fA_p_wire_Reader_Bytes32 fR_p_wire_Reader_Bytes32 fM_p_wire_Reader_Bytes32 fB_p_wire_Reader_Bytes32 fE_p_wire_Reader_Bytes32 [32, 64] (fun x => p_wire_Reader_Bytes32 x.1 x.2.1 x.2.2))) :: (is0_wire_Point_of_msm_Line N))
theorem isok1_wire_Point_of_msm_Line {w0 : World} (N : Nat) (hcs : ∀ x ∈ cs_wire_Point_of_msm_Line N, SoundAt Tryd.prog w0 x.1 x.2) (hf45 : SIO_p_wire_Reader_sound w0) (hf51 : SIO_p_wire_Reader_Bytes32 w0) (hf48 : SIO_p_wire_Reader_Fail w0) : AllOK Tryd.prog w0 gs_wire_Point_of_msm_Line 64 (is1_wire_Point_of_msm_Line N) := allok_cons (one_ct hf51 (by kernel_rfl) rfl) (isok0_wire_Point_of_msm_Line N hcs hf45 hf51 hf48)
noncomputable abbrev is2_wire_Point_of_msm_Line (N : Nat) : List (FuncId × Inl) := ((48, (Inl.ct Tryd.prog 64 64 89 fA_p_wire_Reader_Fail fR_p_wire_Reader_Fail fM_p_wire_Reader_Fail fB_p_wire_Reader_Fail fE_p_wire_Reader_Fail [32, 64] (fun x => p_wire_Reader_Fail x.1 x.2.1 x.2.2))) :: (is1_wire_Point_of_msm_Line N))
theorem isok2_wire_Point_of_msm_Line {w0 : World} (N : Nat) (hcs : ∀ x ∈ cs_wire_Point_of_msm_Line N, SoundAt Tryd.prog w0 x.1 x.2) (hf45 : SIO_p_wire_Reader_sound w0) (hf51 : SIO_p_wire_Reader_Bytes32 w0) (hf48 : SIO_p_wire_Reader_Fail w0) : AllOK Tryd.prog w0 gs_wire_Point_of_msm_Line 64 (is2_wire_Point_of_msm_Line N) := allok_cons (one_ct hf48 (by kernel_rfl) rfl) (isok1_wire_Point_of_msm_Line N hcs hf45 hf51 hf48)
noncomputable abbrev is3_wire_Point_of_msm_Line (N : Nat) : List (FuncId × Inl) := ((115, (inlOf Tryd.prog (cs_wire_Point_of_msm_Line N) gs_wire_Point_of_msm_Line 64 100 (is2_wire_Point_of_msm_Line N) Tryd.f115)) :: (is2_wire_Point_of_msm_Line N))
theorem isok3_wire_Point_of_msm_Line {w0 : World} (N : Nat) (hcs : ∀ x ∈ cs_wire_Point_of_msm_Line N, SoundAt Tryd.prog w0 x.1 x.2) (hf45 : SIO_p_wire_Reader_sound w0) (hf51 : SIO_p_wire_Reader_Bytes32 w0) (hf48 : SIO_p_wire_Reader_Fail w0) : AllOK Tryd.prog w0 gs_wire_Point_of_msm_Line 64 (is3_wire_Point_of_msm_Line N) := allok_cons (one_of hcs (isok2_wire_Point_of_msm_Line N hcs hf45 hf51 hf48) Tryd.func115 (by kernel_rfl) (by kernel_rfl)) (isok2_wire_Point_of_msm_Line N hcs hf45 hf51 hf48)
noncomputable abbrev is4_wire_Point_of_msm_Line (N : Nat) : List (FuncId × Inl) := ((47, (inlOf Tryd.prog (cs_wire_Point_of_msm_Line N) gs_wire_Point_of_msm_Line 64 100 (is3_wire_Point_of_msm_Line N) Tryd.f47)) :: (is3_wire_Point_of_msm_Line N))
theorem isok4_wire_Point_of_msm_Line {w0 : World} (N : Nat) (hcs : ∀ x ∈ cs_wire_Point_of_msm_Line N, SoundAt Tryd.prog w0 x.1 x.2) (hf45 : SIO_p_wire_Reader_sound w0) (hf51 : SIO_p_wire_Reader_Bytes32 w0) (hf48 : SIO_p_wire_Reader_Fail w0) : AllOK Tryd.prog w0 gs_wire_Point_of_msm_Line 64 (is4_wire_Point_of_msm_Line N) := allok_cons (one_of hcs (isok3_wire_Point_of_msm_Line N hcs hf45 hf51 hf48) Tryd.func47 (by kernel_rfl) (by kernel_rfl)) (isok3_wire_Point_of_msm_Line N hcs hf45 hf51 hf48)
noncomputable abbrev is_wire_Point_of_msm_Line (N : Nat) : List (FuncId × Inl) := (is4_wire_Point_of_msm_Line N)
theorem isok_wire_Point_of_msm_Line {w0 : World} (N : Nat) (hcs : ∀ x ∈ cs_wire_Point_of_msm_Line N, SoundAt Tryd.prog w0 x.1 x.2) (hf45 : SIO_p_wire_Reader_sound w0) (hf51 : SIO_p_wire_Reader_Bytes32 w0) (hf48 : SIO_p_wire_Reader_Fail w0) : AllOK Tryd.prog w0 gs_wire_Point_of_msm_Line 64 (is_wire_Point_of_msm_Line N) := (isok4_wire_Point_of_msm_Line N hcs hf45 hf51 hf48)
noncomputable def ls_wire_Point_of_msm_Line (N : Nat) : List (Nat × Lf) := []
theorem r_wire_Point_of_msm_Line (N : Nat) : IoRunIs Tryd.prog (cs_wire_Point_of_msm_Line N) gs_wire_Point_of_msm_Line 64 (is_wire_Point_of_msm_Line N) (ls_wire_Point_of_msm_Line N) Tryd.f33 89 fA_wire_Point_of_msm_Line fR_wire_Point_of_msm_Line fM_wire_Point_of_msm_Line fB_wire_Point_of_msm_Line fE_wire_Point_of_msm_Line [32, 64] (fun x => wire_Point_of_msm_Line N x.1 x.2.1 x.2.2) := by
  intro x; kernel_rfl
theorem s_wire_Point_of_msm_Line {w0 : World} (N : Nat)  (hcs : ∀ x ∈ cs_wire_Point_of_msm_Line N, SoundAt Tryd.prog w0 x.1 x.2) (hf45 : SIO_p_wire_Reader_sound w0) (hf51 : SIO_p_wire_Reader_Bytes32 w0) (hf48 : SIO_p_wire_Reader_Fail w0) : SIO_wire_Point_of_msm_Line w0 N := by
  exact io_printed hcs (glob_nil _ _) (isok_wire_Point_of_msm_Line N hcs hf45 hf51 hf48) Tryd.func33 (by kernel_rfl) (by kernel_rfl) (fun w _ _ => loopsOK_nil _) (by kernel_rfl) (r_wire_Point_of_msm_Line N)
theorem k_wire_Point_of_msm_Line {w0 : World} (N : Nat)  (hg_scalar_lower : GlobOK Tryd.prog w0 gs_scalar_lower) (hg_scalar_Scalar_Least : GlobOK Tryd.prog w0 gs_scalar_Scalar_Least) : SIO_wire_Point_of_msm_Line w0 N :=
  s_wire_Point_of_msm_Line N (cs_cons (k_scalar_Decode N hg_scalar_lower hg_scalar_Scalar_Least) cs_nil) (k_p_wire_Reader_sound) (k_p_wire_Reader_Bytes32) (k_p_wire_Reader_Fail)

def fA_p_wire_Reader_Err : Ag (Unit) := (.one (.lit (.ptr 32 [] 104)))
def fR_p_wire_Reader_Err : Ent (((Bool × (Nat × Nat × Nat) × Int) × (Nat × List Int))) := (.cons 32 (.agg (.cons .bool (.cons (.gpw 33 5) (.one (.int .i64))))) (.one 33 (.lst .u8)))
def fM_p_wire_Reader_Err : Ent (Unit) := .nil
def fB_p_wire_Reader_Err : Pt (Int) := (.int .i64)
def fE_p_wire_Reader_Err : Ent (Unit) := .nil
abbrev SIO_p_wire_Reader_Err (w0 : World) : Prop := SoundIo Tryd.prog w0 53 64 88 fA_p_wire_Reader_Err fR_p_wire_Reader_Err fM_p_wire_Reader_Err fB_p_wire_Reader_Err fE_p_wire_Reader_Err [32, 33] (fun x => p_wire_Reader_Err x.1 x.2.1 x.2.2)
def cs_p_wire_Reader_Err : List (FuncId × Ct) := []
def gs_p_wire_Reader_Err : List Gv := []
noncomputable abbrev is0_p_wire_Reader_Err : List (FuncId × Inl) := ((57, (Inl.ct Tryd.prog 64 64 88 fA_p_wire_Reader_is fR_p_wire_Reader_is fM_p_wire_Reader_is fB_p_wire_Reader_is fE_p_wire_Reader_is [32, 33] (fun x => p_wire_Reader_is x.1 x.2.1 x.2.2))) :: [])
theorem isok0_p_wire_Reader_Err {w0 : World} (hcs : ∀ x ∈ cs_p_wire_Reader_Err, SoundAt Tryd.prog w0 x.1 x.2) (hf57 : SIO_p_wire_Reader_is w0) : AllOK Tryd.prog w0 gs_p_wire_Reader_Err 64 (is0_p_wire_Reader_Err) := allok_cons (one_ct hf57 (by kernel_rfl) rfl) allok_nil
noncomputable abbrev is_p_wire_Reader_Err : List (FuncId × Inl) := (is0_p_wire_Reader_Err)
theorem isok_p_wire_Reader_Err {w0 : World} (hcs : ∀ x ∈ cs_p_wire_Reader_Err, SoundAt Tryd.prog w0 x.1 x.2) (hf57 : SIO_p_wire_Reader_is w0) : AllOK Tryd.prog w0 gs_p_wire_Reader_Err 64 (is_p_wire_Reader_Err) := (isok0_p_wire_Reader_Err hcs hf57)
noncomputable def ls_p_wire_Reader_Err : List (Nat × Lf) := []
theorem r_p_wire_Reader_Err : IoRunIs Tryd.prog (cs_p_wire_Reader_Err) gs_p_wire_Reader_Err 64 (is_p_wire_Reader_Err) (ls_p_wire_Reader_Err) Tryd.f53 88 fA_p_wire_Reader_Err fR_p_wire_Reader_Err fM_p_wire_Reader_Err fB_p_wire_Reader_Err fE_p_wire_Reader_Err [32, 33] (fun x => p_wire_Reader_Err x.1 x.2.1 x.2.2) := by
  intro x; kernel_rfl
theorem s_p_wire_Reader_Err {w0 : World}  (hcs : ∀ x ∈ cs_p_wire_Reader_Err, SoundAt Tryd.prog w0 x.1 x.2) (hf57 : SIO_p_wire_Reader_is w0) : SIO_p_wire_Reader_Err w0 := by
  exact io_printed hcs (glob_nil _ _) (isok_p_wire_Reader_Err hcs hf57) Tryd.func53 (by kernel_rfl) (by kernel_rfl) (fun w _ _ => loopsOK_nil _) (by kernel_rfl) (r_p_wire_Reader_Err)
theorem k_p_wire_Reader_Err {w0 : World}  : SIO_p_wire_Reader_Err w0 :=
  s_p_wire_Reader_Err cs_nil (k_p_wire_Reader_is)

def fA_p_wire_Reader_End : Ag (Unit) := (.one (.lit (.ptr 64 [] 104)))
def fR_p_wire_Reader_End : Ent ((Nat × List Int)) := (.one 32 (.lst .u8))
def fM_p_wire_Reader_End : Ent ((Bool × (Nat × Nat × Nat) × Int)) := (.one 64 (.agg (.cons .bool (.cons (.gpw 32 5) (.one (.int .i64))))))
def fB_p_wire_Reader_End : Pt (Int) := (.int .i64)
def fE_p_wire_Reader_End : Ent ((Bool × (Nat × Nat × Nat) × Int)) := (.one 64 (.agg (.cons .bool (.cons (.gpw 32 5) (.one (.int .i64))))))
abbrev SIO_p_wire_Reader_End (w0 : World) : Prop := SoundIo Tryd.prog w0 35 64 89 fA_p_wire_Reader_End fR_p_wire_Reader_End fM_p_wire_Reader_End fB_p_wire_Reader_End fE_p_wire_Reader_End [32, 64] (fun x => p_wire_Reader_End x.1 x.2.1 x.2.2)
def cs_p_wire_Reader_End : List (FuncId × Ct) := []
def gs_p_wire_Reader_End : List Gv := []
noncomputable abbrev is0_p_wire_Reader_End : List (FuncId × Inl) := ((45, (Inl.ct Tryd.prog 64 64 88 fA_p_wire_Reader_sound fR_p_wire_Reader_sound fM_p_wire_Reader_sound fB_p_wire_Reader_sound fE_p_wire_Reader_sound [32, 33] (fun x => p_wire_Reader_sound x.1 x.2.1 x.2.2))) :: [])
theorem isok0_p_wire_Reader_End {w0 : World} (hcs : ∀ x ∈ cs_p_wire_Reader_End, SoundAt Tryd.prog w0 x.1 x.2) (hf45 : SIO_p_wire_Reader_sound w0) (hf48 : SIO_p_wire_Reader_Fail w0) (hf53 : SIO_p_wire_Reader_Err w0) : AllOK Tryd.prog w0 gs_p_wire_Reader_End 64 (is0_p_wire_Reader_End) := allok_cons (one_ct hf45 (by kernel_rfl) rfl) allok_nil
noncomputable abbrev is1_p_wire_Reader_End : List (FuncId × Inl) := ((48, (Inl.ct Tryd.prog 64 64 89 fA_p_wire_Reader_Fail fR_p_wire_Reader_Fail fM_p_wire_Reader_Fail fB_p_wire_Reader_Fail fE_p_wire_Reader_Fail [32, 64] (fun x => p_wire_Reader_Fail x.1 x.2.1 x.2.2))) :: (is0_p_wire_Reader_End))
theorem isok1_p_wire_Reader_End {w0 : World} (hcs : ∀ x ∈ cs_p_wire_Reader_End, SoundAt Tryd.prog w0 x.1 x.2) (hf45 : SIO_p_wire_Reader_sound w0) (hf48 : SIO_p_wire_Reader_Fail w0) (hf53 : SIO_p_wire_Reader_Err w0) : AllOK Tryd.prog w0 gs_p_wire_Reader_End 64 (is1_p_wire_Reader_End) := allok_cons (one_ct hf48 (by kernel_rfl) rfl) (isok0_p_wire_Reader_End hcs hf45 hf48 hf53)
noncomputable abbrev is2_p_wire_Reader_End : List (FuncId × Inl) := ((53, (Inl.ct Tryd.prog 64 64 88 fA_p_wire_Reader_Err fR_p_wire_Reader_Err fM_p_wire_Reader_Err fB_p_wire_Reader_Err fE_p_wire_Reader_Err [32, 33] (fun x => p_wire_Reader_Err x.1 x.2.1 x.2.2))) :: (is1_p_wire_Reader_End))
theorem isok2_p_wire_Reader_End {w0 : World} (hcs : ∀ x ∈ cs_p_wire_Reader_End, SoundAt Tryd.prog w0 x.1 x.2) (hf45 : SIO_p_wire_Reader_sound w0) (hf48 : SIO_p_wire_Reader_Fail w0) (hf53 : SIO_p_wire_Reader_Err w0) : AllOK Tryd.prog w0 gs_p_wire_Reader_End 64 (is2_p_wire_Reader_End) := allok_cons (one_ct hf53 (by kernel_rfl) rfl) (isok1_p_wire_Reader_End hcs hf45 hf48 hf53)
noncomputable abbrev is_p_wire_Reader_End : List (FuncId × Inl) := (is2_p_wire_Reader_End)
theorem isok_p_wire_Reader_End {w0 : World} (hcs : ∀ x ∈ cs_p_wire_Reader_End, SoundAt Tryd.prog w0 x.1 x.2) (hf45 : SIO_p_wire_Reader_sound w0) (hf48 : SIO_p_wire_Reader_Fail w0) (hf53 : SIO_p_wire_Reader_Err w0) : AllOK Tryd.prog w0 gs_p_wire_Reader_End 64 (is_p_wire_Reader_End) := (isok2_p_wire_Reader_End hcs hf45 hf48 hf53)
noncomputable def ls_p_wire_Reader_End : List (Nat × Lf) := []
theorem r_p_wire_Reader_End : IoRunIs Tryd.prog (cs_p_wire_Reader_End) gs_p_wire_Reader_End 64 (is_p_wire_Reader_End) (ls_p_wire_Reader_End) Tryd.f35 89 fA_p_wire_Reader_End fR_p_wire_Reader_End fM_p_wire_Reader_End fB_p_wire_Reader_End fE_p_wire_Reader_End [32, 64] (fun x => p_wire_Reader_End x.1 x.2.1 x.2.2) := by
  intro x; kernel_rfl
theorem s_p_wire_Reader_End {w0 : World}  (hcs : ∀ x ∈ cs_p_wire_Reader_End, SoundAt Tryd.prog w0 x.1 x.2) (hf45 : SIO_p_wire_Reader_sound w0) (hf48 : SIO_p_wire_Reader_Fail w0) (hf53 : SIO_p_wire_Reader_Err w0) : SIO_p_wire_Reader_End w0 := by
  exact io_printed hcs (glob_nil _ _) (isok_p_wire_Reader_End hcs hf45 hf48 hf53) Tryd.func35 (by kernel_rfl) (by kernel_rfl) (fun w _ _ => loopsOK_nil _) (by kernel_rfl) (r_p_wire_Reader_End)
theorem k_p_wire_Reader_End {w0 : World}  : SIO_p_wire_Reader_End w0 :=
  s_p_wire_Reader_End cs_nil (k_p_wire_Reader_sound) (k_p_wire_Reader_Fail) (k_p_wire_Reader_Err)

def fA_wire_NewReader : Ag (List (Int)) := (.one (.dvw 32 5 (.tc (.int .u8))))
def fR_wire_NewReader : Ent (Unit) := .nil
def fM_wire_NewReader : Ent (Unit) := .nil
def fB_wire_NewReader : Pt (Unit) := (.lit (.ptr 64 [] 104))
def fE_wire_NewReader : Ent (((Bool × (Nat × Nat × Nat) × Int) × (Nat × List Int))) := (.cons 64 (.agg (.cons .bool (.cons (.gpw 65 5) (.one (.int .i64))))) (.one 65 (.lst .u8)))
abbrev SIO_wire_NewReader (w0 : World) : Prop := SoundIo Tryd.prog w0 21 64 88 fA_wire_NewReader fR_wire_NewReader fM_wire_NewReader fB_wire_NewReader fE_wire_NewReader [] (fun x => wire_NewReader x.1 x.2.1 x.2.2)
def cs_wire_NewReader : List (FuncId × Ct) := [(44, ct_slices_Clone_of_byte_byte)]
def gs_wire_NewReader : List Gv := []
noncomputable abbrev is_wire_NewReader : List (FuncId × Inl) := []
theorem isok_wire_NewReader {w0 : World} (hcs : ∀ x ∈ cs_wire_NewReader, SoundAt Tryd.prog w0 x.1 x.2) : AllOK Tryd.prog w0 gs_wire_NewReader 64 (is_wire_NewReader) := allok_nil
noncomputable def ls_wire_NewReader : List (Nat × Lf) := []
theorem r_wire_NewReader : IoRunIs Tryd.prog (cs_wire_NewReader) gs_wire_NewReader 64 (is_wire_NewReader) (ls_wire_NewReader) Tryd.f21 88 fA_wire_NewReader fR_wire_NewReader fM_wire_NewReader fB_wire_NewReader fE_wire_NewReader [] (fun x => wire_NewReader x.1 x.2.1 x.2.2) := by
  intro x; kernel_rfl
theorem s_wire_NewReader {w0 : World}  (hcs : ∀ x ∈ cs_wire_NewReader, SoundAt Tryd.prog w0 x.1 x.2) : SIO_wire_NewReader w0 := by
  exact io_printed hcs (glob_nil _ _) (isok_wire_NewReader hcs) Tryd.func21 (by kernel_rfl) (by kernel_rfl) (fun w _ _ => loopsOK_nil _) (by kernel_rfl) (r_wire_NewReader)
theorem k_wire_NewReader {w0 : World}  : SIO_wire_NewReader w0 :=
  s_wire_NewReader (cs_cons (k_slices_Clone_of_byte_byte) cs_nil)

def fA_wire_DecodeProof_of_msm_Line : Ag (List (Int)) := (.one (.dvw 32 5 (.tc (.int .u8))))
def fR_wire_DecodeProof_of_msm_Line : Ent (Unit) := .nil
def fM_wire_DecodeProof_of_msm_Line : Ent (Unit) := .nil
def fB_wire_DecodeProof_of_msm_Line : Pt (((List Int × List Int × List Int × List Int × List Int × List Int × List Int × List (List Int) × List (List Int) × List Int × List Int) × Int)) := (.tup (.cons (.agg (.cons (.agg (.one (.ints .u64 4))) (.cons (.agg (.one (.ints .u64 4))) (.cons (.agg (.one (.ints .u64 4))) (.cons (.agg (.one (.ints .u64 4))) (.cons (.ints .u64 4) (.cons (.ints .u64 4) (.cons (.ints .u64 4) (.cons (.dvw 64 34 (.tc (.agg (.ints .u64 4)))) (.cons (.dvw 65 34 (.tc (.agg (.ints .u64 4)))) (.cons (.ints .u64 4) (.one (.ints .u64 4))))))))))))) (.one (.int .i64))))
def fE_wire_DecodeProof_of_msm_Line : Ent ((Unit × Unit)) := (.cons 64 (.lit (.dc (.tc (.agg (.ints .u64 4))) [])) (.one 65 (.lit (.dc (.tc (.agg (.ints .u64 4))) []))))
abbrev SIO_wire_DecodeProof_of_msm_Line (w0 : World) (N : Nat) : Prop := SoundIo Tryd.prog w0 11 64 88 fA_wire_DecodeProof_of_msm_Line fR_wire_DecodeProof_of_msm_Line fM_wire_DecodeProof_of_msm_Line fB_wire_DecodeProof_of_msm_Line fE_wire_DecodeProof_of_msm_Line [] (fun x => wire_DecodeProof_of_msm_Line N x.1 x.2.1 x.2.2)
def cs_wire_DecodeProof_of_msm_Line (N : Nat) : List (FuncId × Ct) := [(4294967295, fzCt)]
def gs_wire_DecodeProof_of_msm_Line : List Gv := []
noncomputable abbrev is0_wire_DecodeProof_of_msm_Line (N : Nat) : List (FuncId × Inl) := ((21, (Inl.ct Tryd.prog 64 64 88 fA_wire_NewReader fR_wire_NewReader fM_wire_NewReader fB_wire_NewReader fE_wire_NewReader [] (fun x => wire_NewReader x.1 x.2.1 x.2.2))) :: [])
theorem isok0_wire_DecodeProof_of_msm_Line {w0 : World} (N : Nat) (hcs : ∀ x ∈ cs_wire_DecodeProof_of_msm_Line N, SoundAt Tryd.prog w0 x.1 x.2) (hf21 : SIO_wire_NewReader w0) (hf33 : SIO_wire_Point_of_msm_Line w0 N) (hf34 : SIO_p_wire_Reader_Scalar w0 N) (hf35 : SIO_p_wire_Reader_End w0) : AllOK Tryd.prog w0 gs_wire_DecodeProof_of_msm_Line 64 (is0_wire_DecodeProof_of_msm_Line N) := allok_cons (one_ct hf21 (by kernel_rfl) rfl) allok_nil
noncomputable abbrev is1_wire_DecodeProof_of_msm_Line (N : Nat) : List (FuncId × Inl) := ((33, (Inl.ct Tryd.prog 64 64 89 fA_wire_Point_of_msm_Line fR_wire_Point_of_msm_Line fM_wire_Point_of_msm_Line fB_wire_Point_of_msm_Line fE_wire_Point_of_msm_Line [32, 64] (fun x => wire_Point_of_msm_Line N x.1 x.2.1 x.2.2))) :: (is0_wire_DecodeProof_of_msm_Line N))
theorem isok1_wire_DecodeProof_of_msm_Line {w0 : World} (N : Nat) (hcs : ∀ x ∈ cs_wire_DecodeProof_of_msm_Line N, SoundAt Tryd.prog w0 x.1 x.2) (hf21 : SIO_wire_NewReader w0) (hf33 : SIO_wire_Point_of_msm_Line w0 N) (hf34 : SIO_p_wire_Reader_Scalar w0 N) (hf35 : SIO_p_wire_Reader_End w0) : AllOK Tryd.prog w0 gs_wire_DecodeProof_of_msm_Line 64 (is1_wire_DecodeProof_of_msm_Line N) := allok_cons (one_ct hf33 (by kernel_rfl) rfl) (isok0_wire_DecodeProof_of_msm_Line N hcs hf21 hf33 hf34 hf35)
noncomputable abbrev is2_wire_DecodeProof_of_msm_Line (N : Nat) : List (FuncId × Inl) := ((34, (Inl.ct Tryd.prog 64 64 89 fA_p_wire_Reader_Scalar fR_p_wire_Reader_Scalar fM_p_wire_Reader_Scalar fB_p_wire_Reader_Scalar fE_p_wire_Reader_Scalar [32, 64] (fun x => p_wire_Reader_Scalar N x.1 x.2.1 x.2.2))) :: (is1_wire_DecodeProof_of_msm_Line N))
theorem isok2_wire_DecodeProof_of_msm_Line {w0 : World} (N : Nat) (hcs : ∀ x ∈ cs_wire_DecodeProof_of_msm_Line N, SoundAt Tryd.prog w0 x.1 x.2) (hf21 : SIO_wire_NewReader w0) (hf33 : SIO_wire_Point_of_msm_Line w0 N) (hf34 : SIO_p_wire_Reader_Scalar w0 N) (hf35 : SIO_p_wire_Reader_End w0) : AllOK Tryd.prog w0 gs_wire_DecodeProof_of_msm_Line 64 (is2_wire_DecodeProof_of_msm_Line N) := allok_cons (one_ct hf34 (by kernel_rfl) rfl) (isok1_wire_DecodeProof_of_msm_Line N hcs hf21 hf33 hf34 hf35)
noncomputable abbrev is3_wire_DecodeProof_of_msm_Line (N : Nat) : List (FuncId × Inl) := ((35, (Inl.ct Tryd.prog 64 64 89 fA_p_wire_Reader_End fR_p_wire_Reader_End fM_p_wire_Reader_End fB_p_wire_Reader_End fE_p_wire_Reader_End [32, 64] (fun x => p_wire_Reader_End x.1 x.2.1 x.2.2))) :: (is2_wire_DecodeProof_of_msm_Line N))
theorem isok3_wire_DecodeProof_of_msm_Line {w0 : World} (N : Nat) (hcs : ∀ x ∈ cs_wire_DecodeProof_of_msm_Line N, SoundAt Tryd.prog w0 x.1 x.2) (hf21 : SIO_wire_NewReader w0) (hf33 : SIO_wire_Point_of_msm_Line w0 N) (hf34 : SIO_p_wire_Reader_Scalar w0 N) (hf35 : SIO_p_wire_Reader_End w0) : AllOK Tryd.prog w0 gs_wire_DecodeProof_of_msm_Line 64 (is3_wire_DecodeProof_of_msm_Line N) := allok_cons (one_ct hf35 (by kernel_rfl) rfl) (isok2_wire_DecodeProof_of_msm_Line N hcs hf21 hf33 hf34 hf35)
noncomputable abbrev is_wire_DecodeProof_of_msm_Line (N : Nat) : List (FuncId × Inl) := (is3_wire_DecodeProof_of_msm_Line N)
theorem isok_wire_DecodeProof_of_msm_Line {w0 : World} (N : Nat) (hcs : ∀ x ∈ cs_wire_DecodeProof_of_msm_Line N, SoundAt Tryd.prog w0 x.1 x.2) (hf21 : SIO_wire_NewReader w0) (hf33 : SIO_wire_Point_of_msm_Line w0 N) (hf34 : SIO_p_wire_Reader_Scalar w0 N) (hf35 : SIO_p_wire_Reader_End w0) : AllOK Tryd.prog w0 gs_wire_DecodeProof_of_msm_Line 64 (is_wire_DecodeProof_of_msm_Line N) := (isok3_wire_DecodeProof_of_msm_Line N hcs hf21 hf33 hf34 hf35)
def wire_DecodeProof_of_msm_Line_l4_H : Fm ((Unit × Unit × Unit × Unit × Int × Int)) ((Unit × Unit × Unit × (Bool × (Nat × Nat × Nat) × Int) × (Nat × List Int) × (List Int × List Int × List Int × List Int × List Int × List Int × List Int × List (List Int) × List (List Int) × List Int × List Int))) := ⟨(.cons 2 (.lit (.ptr 88 [] 37)) (.cons 3 (.lit (.int .i64 0)) (.cons 5 (.lit (.ptr 178 [] 104)) (.cons 6 (.lit (.ptr 205 [] 37)) (.cons 60 (.int .i64) (.one 61 (.int .i64))))))), (.cons 64 (.lit (.dc (.tc (.agg (.ints .u64 4))) [])) (.cons 65 (.lit (.dc (.tc (.agg (.ints .u64 4))) [])) (.cons 88 (.lit (.agg [(.agg [(.ints .u64 4 [0, 0, 0, 0])]), (.agg [(.ints .u64 4 [0, 0, 0, 0])]), (.agg [(.ints .u64 4 [0, 0, 0, 0])]), (.agg [(.ints .u64 4 [0, 0, 0, 0])]), (.ints .u64 4 [0, 0, 0, 0]), (.ints .u64 4 [0, 0, 0, 0]), (.ints .u64 4 [0, 0, 0, 0]), .nils, .nils, (.ints .u64 4 [0, 0, 0, 0]), (.ints .u64 4 [0, 0, 0, 0])])) (.cons 178 (.agg (.cons .bool (.cons (.gpw 179 5) (.one (.int .i64))))) (.cons 179 (.lst .u8) (.one 205 (.agg (.cons (.agg (.one (.ints .u64 4))) (.cons (.agg (.one (.ints .u64 4))) (.cons (.agg (.one (.ints .u64 4))) (.cons (.agg (.one (.ints .u64 4))) (.cons (.ints .u64 4) (.cons (.ints .u64 4) (.cons (.ints .u64 4) (.cons (.dvw 64 34 (.tc (.agg (.ints .u64 4)))) (.cons (.dvw 65 34 (.tc (.agg (.ints .u64 4)))) (.cons (.ints .u64 4) (.one (.ints .u64 4)))))))))))))))))))⟩
def wire_DecodeProof_of_msm_Line_l4_O : Fm ((Unit × Unit × Unit)) ((Unit × Unit × Unit × (Bool × (Nat × Nat × Nat) × Int) × (Nat × List Int) × (List Int × List Int × List Int × List Int × List Int × List Int × List Int × List (List Int) × List (List Int) × List Int × List Int))) := ⟨(.cons 2 (.lit (.ptr 88 [] 37)) (.cons 5 (.lit (.ptr 178 [] 104)) (.one 6 (.lit (.ptr 205 [] 37))))), (.cons 64 (.lit (.dc (.tc (.agg (.ints .u64 4))) [])) (.cons 65 (.lit (.dc (.tc (.agg (.ints .u64 4))) [])) (.cons 88 (.lit (.agg [(.agg [(.ints .u64 4 [0, 0, 0, 0])]), (.agg [(.ints .u64 4 [0, 0, 0, 0])]), (.agg [(.ints .u64 4 [0, 0, 0, 0])]), (.agg [(.ints .u64 4 [0, 0, 0, 0])]), (.ints .u64 4 [0, 0, 0, 0]), (.ints .u64 4 [0, 0, 0, 0]), (.ints .u64 4 [0, 0, 0, 0]), .nils, .nils, (.ints .u64 4 [0, 0, 0, 0]), (.ints .u64 4 [0, 0, 0, 0])])) (.cons 178 (.agg (.cons .bool (.cons (.gpw 179 5) (.one (.int .i64))))) (.cons 179 (.lst .u8) (.one 205 (.agg (.cons (.agg (.one (.ints .u64 4))) (.cons (.agg (.one (.ints .u64 4))) (.cons (.agg (.one (.ints .u64 4))) (.cons (.agg (.one (.ints .u64 4))) (.cons (.ints .u64 4) (.cons (.ints .u64 4) (.cons (.ints .u64 4) (.cons (.dvw 64 34 (.tc (.agg (.ints .u64 4)))) (.cons (.dvw 65 34 (.tc (.agg (.ints .u64 4)))) (.cons (.ints .u64 4) (.one (.ints .u64 4)))))))))))))))))))⟩
def wire_DecodeProof_of_msm_Line_l4_T : Fm (Unit) (Unit) := ⟨.nil, .nil⟩
noncomputable def ls_wire_DecodeProof_of_msm_Line (N : Nat) : List (Nat × Lf) := [(4, loopCt wire_DecodeProof_of_msm_Line_l4_H wire_DecodeProof_of_msm_Line_l4_O wire_DecodeProof_of_msm_Line_l4_T 210 (wire_DecodeProof_of_msm_Line_l4 N) N)]
theorem wire_DecodeProof_of_msm_Line_l4_step (N : Nat) : StepIs Tryd.prog (cxIn Tryd.f11 (cs_wire_DecodeProof_of_msm_Line N) gs_wire_DecodeProof_of_msm_Line 64 (is_wire_DecodeProof_of_msm_Line N)) (ls_wire_DecodeProof_of_msm_Line N) Tryd.f11 4 210 wire_DecodeProof_of_msm_Line_l4_H wire_DecodeProof_of_msm_Line_l4_O wire_DecodeProof_of_msm_Line_l4_T (wire_DecodeProof_of_msm_Line_l4 N) := by
  intro v; kernel_rfl
theorem r_wire_DecodeProof_of_msm_Line (N : Nat) : IoRunIs Tryd.prog (cs_wire_DecodeProof_of_msm_Line N) gs_wire_DecodeProof_of_msm_Line 64 (is_wire_DecodeProof_of_msm_Line N) (ls_wire_DecodeProof_of_msm_Line N) Tryd.f11 88 fA_wire_DecodeProof_of_msm_Line fR_wire_DecodeProof_of_msm_Line fM_wire_DecodeProof_of_msm_Line fB_wire_DecodeProof_of_msm_Line fE_wire_DecodeProof_of_msm_Line [] (fun x => wire_DecodeProof_of_msm_Line N x.1 x.2.1 x.2.2) := by
  intro x; kernel_rfl
theorem s_wire_DecodeProof_of_msm_Line {w0 : World} (N : Nat)  (hcs : ∀ x ∈ cs_wire_DecodeProof_of_msm_Line N, SoundAt Tryd.prog w0 x.1 x.2) (hf21 : SIO_wire_NewReader w0) (hf33 : SIO_wire_Point_of_msm_Line w0 N) (hf34 : SIO_p_wire_Reader_Scalar w0 N) (hf35 : SIO_p_wire_Reader_End w0) : SIO_wire_DecodeProof_of_msm_Line w0 N := by
  have L4 : ∀ w : Base, w.g = w0 → ∀ ρk, LoopOKX Tryd.prog (cxIn Tryd.f11 (cs_wire_DecodeProof_of_msm_Line N) gs_wire_DecodeProof_of_msm_Line 64 (is_wire_DecodeProof_of_msm_Line N)) w (Kp [] ρk) 4 (.loop (loopBody Tryd.f11 4)) (loopCt wire_DecodeProof_of_msm_Line_l4_H wire_DecodeProof_of_msm_Line_l4_O wire_DecodeProof_of_msm_Line_l4_T 210 (wire_DecodeProof_of_msm_Line_l4 N) N) :=
    loop_printedK hcs (isok_wire_DecodeProof_of_msm_Line N hcs hf21 hf33 hf34 hf35) (ls := ls_wire_DecodeProof_of_msm_Line N) (n := 100) (by kernel_rfl) (wire_DecodeProof_of_msm_Line_l4_step N) N fun w hw ρk => loopsOK_list (lp_no (by kernel_rfl) lp_nil)
  exact io_printed hcs (glob_nil _ _) (isok_wire_DecodeProof_of_msm_Line N hcs hf21 hf33 hf34 hf35) Tryd.func11 (by kernel_rfl) (by kernel_rfl) (fun w hw ρk => loopsOK_list (lp_yes (L4 w hw ρk) (by kernel_rfl) lp_nil)) (by kernel_rfl) (r_wire_DecodeProof_of_msm_Line N)
theorem k_wire_DecodeProof_of_msm_Line {w0 : World} (N : Nat)  (hg_scalar_lower : GlobOK Tryd.prog w0 gs_scalar_lower) (hg_scalar_Scalar_Least : GlobOK Tryd.prog w0 gs_scalar_Scalar_Least) : SIO_wire_DecodeProof_of_msm_Line w0 N :=
  s_wire_DecodeProof_of_msm_Line N (cs_fz cs_nil) (k_wire_NewReader) (k_wire_Point_of_msm_Line N hg_scalar_lower hg_scalar_Scalar_Least) (k_p_wire_Reader_Scalar N hg_scalar_lower hg_scalar_Scalar_Least) (k_p_wire_Reader_End)

abbrev A_veillaw10_lines : Ag ((List (List Int) × Unit)) := (.one (.tup (.cons (.vec (.ints .u64 4)) (.one (.lit (.clo 24 []))))))
abbrev B_veillaw10_lines : Pt ((List (List Int) × Unit)) := (.tup (.cons (.vec (.agg (.ints .u64 4))) (.one (.lit (.clo 34 [])))))
def ct_veillaw10_lines (N : Nat) : Ct := fct A_veillaw10_lines B_veillaw10_lines fun x => veillaw10_lines N x
def cs_veillaw10_lines (N : Nat) : List (FuncId × Ct) := []
def gs_veillaw10_lines : List Gv := []
def veillaw10_lines_l0_H : Fm ((Nat × Unit × Nat × Int)) ((List (List Int) × List (List Int))) := ⟨(.cons 0 (.slw 0 24) (.cons 2 (.lit .nils) (.cons 3 (.gsw 1 34) (.one 4 (.int .i64))))), (.cons 0 (.vec (.ints .u64 4)) (.one 1 (.vec (.agg (.ints .u64 4)))))⟩
def veillaw10_lines_l0_O : Fm (Nat) (List (List Int)) := ⟨(.one 3 (.gsw 1 34)), (.one 1 (.vec (.agg (.ints .u64 4))))⟩
def veillaw10_lines_l0_T : Fm (Unit) (Unit) := ⟨.nil, .nil⟩
noncomputable def ls_veillaw10_lines (N : Nat) : List (Nat × Lf) := [(0, loopCt veillaw10_lines_l0_H veillaw10_lines_l0_O veillaw10_lines_l0_T 4 (veillaw10_lines_l0 N) N)]
theorem veillaw10_lines_l0_step (N : Nat) : StepIs Tryd.prog (cxOf Tryd.f30 (cs_veillaw10_lines N) gs_veillaw10_lines 1) (ls_veillaw10_lines N) Tryd.f30 0 4 veillaw10_lines_l0_H veillaw10_lines_l0_O veillaw10_lines_l0_T (veillaw10_lines_l0 N) := by
  intro v; kernel_rfl
theorem r_veillaw10_lines (N : Nat) : RunIs Tryd.prog (cs_veillaw10_lines N) gs_veillaw10_lines 1 (ls_veillaw10_lines N) Tryd.f30 A_veillaw10_lines B_veillaw10_lines (fun x => veillaw10_lines N x) := by
  intro x; kernel_rfl
theorem s_veillaw10_lines {w0 : World} (N : Nat)  (hcs : ∀ x ∈ cs_veillaw10_lines N, SoundAt Tryd.prog w0 x.1 x.2) : SoundAt Tryd.prog w0 30 (ct_veillaw10_lines N) := by
  have L0 : ∀ w : Base, w.g = w0 → LoopOK Tryd.prog (cxOf Tryd.f30 (cs_veillaw10_lines N) gs_veillaw10_lines 1) w 0 (.loop (loopBody Tryd.f30 0)) (loopCt veillaw10_lines_l0_H veillaw10_lines_l0_O veillaw10_lines_l0_T 4 (veillaw10_lines_l0 N) N) :=
    loop_printed hcs (ls := ls_veillaw10_lines N) (n := 100) (by kernel_rfl) (veillaw10_lines_l0_step N) N fun w hw => loopsOK_list (lp_no (by kernel_rfl) lp_nil)
  exact fn_printed hcs (glob_nil _ _) Tryd.func30 (by kernel_rfl) (by kernel_rfl) (S := 1) (fun w hw => loopsOK_list (lp_yes (L0 w hw) (by kernel_rfl) lp_nil)) (fun _ => rfl) (r_veillaw10_lines N)
theorem k_veillaw10_lines {w0 : World} (N : Nat)  : SoundAt Tryd.prog w0 30 (ct_veillaw10_lines N) :=
  s_veillaw10_lines N cs_nil

def fA_veillaw10_WireProof_line : Ag (((List Int × List Int × List Int × List Int) × List Int × List Int × List Int × List (List Int) × List (List Int) × List Int × List Int)) := (.one (.agg (.cons (.agg (.cons (.ints .u64 4) (.cons (.ints .u64 4) (.cons (.ints .u64 4) (.one (.ints .u64 4)))))) (.cons (.ints .u64 4) (.cons (.ints .u64 4) (.cons (.ints .u64 4) (.cons (.dvw 32 24 (.tc (.ints .u64 4))) (.cons (.dvw 33 24 (.tc (.ints .u64 4))) (.cons (.ints .u64 4) (.one (.ints .u64 4)))))))))))
def fR_veillaw10_WireProof_line : Ent (Unit) := .nil
def fM_veillaw10_WireProof_line : Ent (Unit) := .nil
def fB_veillaw10_WireProof_line : Pt ((List Int × List Int × List Int × List Int × List Int × List Int × List Int × List (List Int) × List (List Int) × List Int × List Int)) := (.agg (.cons (.agg (.one (.ints .u64 4))) (.cons (.agg (.one (.ints .u64 4))) (.cons (.agg (.one (.ints .u64 4))) (.cons (.agg (.one (.ints .u64 4))) (.cons (.ints .u64 4) (.cons (.ints .u64 4) (.cons (.ints .u64 4) (.cons (.dvw 64 34 (.tc (.agg (.ints .u64 4)))) (.cons (.dvw 65 34 (.tc (.agg (.ints .u64 4)))) (.cons (.ints .u64 4) (.one (.ints .u64 4)))))))))))))
def fE_veillaw10_WireProof_line : Ent ((Unit × Unit)) := (.cons 64 (.lit (.dc (.tc (.agg (.ints .u64 4))) [])) (.one 65 (.lit (.dc (.tc (.agg (.ints .u64 4))) []))))
abbrev SIO_veillaw10_WireProof_line (w0 : World) (N : Nat) : Prop := SoundIo Tryd.prog w0 8 64 88 fA_veillaw10_WireProof_line fR_veillaw10_WireProof_line fM_veillaw10_WireProof_line fB_veillaw10_WireProof_line fE_veillaw10_WireProof_line [] (fun x => veillaw10_WireProof_line N x.1 x.2.1 x.2.2)
def cs_veillaw10_WireProof_line (N : Nat) : List (FuncId × Ct) := [(4294967295, fzCt), (30, (ct_veillaw10_lines N))]
def gs_veillaw10_WireProof_line : List Gv := []
noncomputable abbrev is_veillaw10_WireProof_line (N : Nat) : List (FuncId × Inl) := []
theorem isok_veillaw10_WireProof_line {w0 : World} (N : Nat) (hcs : ∀ x ∈ cs_veillaw10_WireProof_line N, SoundAt Tryd.prog w0 x.1 x.2) : AllOK Tryd.prog w0 gs_veillaw10_WireProof_line 64 (is_veillaw10_WireProof_line N) := allok_nil
noncomputable def ls_veillaw10_WireProof_line (N : Nat) : List (Nat × Lf) := []
theorem r_veillaw10_WireProof_line (N : Nat) : IoRunIs Tryd.prog (cs_veillaw10_WireProof_line N) gs_veillaw10_WireProof_line 64 (is_veillaw10_WireProof_line N) (ls_veillaw10_WireProof_line N) Tryd.f8 88 fA_veillaw10_WireProof_line fR_veillaw10_WireProof_line fM_veillaw10_WireProof_line fB_veillaw10_WireProof_line fE_veillaw10_WireProof_line [] (fun x => veillaw10_WireProof_line N x.1 x.2.1 x.2.2) := by
  intro x; kernel_rfl
theorem s_veillaw10_WireProof_line {w0 : World} (N : Nat)  (hcs : ∀ x ∈ cs_veillaw10_WireProof_line N, SoundAt Tryd.prog w0 x.1 x.2) : SIO_veillaw10_WireProof_line w0 N := by
  exact io_printed hcs (glob_nil _ _) (isok_veillaw10_WireProof_line N hcs) Tryd.func8 (by kernel_rfl) (by kernel_rfl) (fun w _ _ => loopsOK_nil _) (by kernel_rfl) (r_veillaw10_WireProof_line N)
theorem k_veillaw10_WireProof_line {w0 : World} (N : Nat)  : SIO_veillaw10_WireProof_line w0 N :=
  s_veillaw10_WireProof_line N (cs_fz (cs_cons (k_veillaw10_lines N) cs_nil))

def fA_wire_EncodeProof_of_msm_Line : Ag ((List Int × List Int × List Int × List Int × List Int × List Int × List Int × List (List Int) × List (List Int) × List Int × List Int)) := (.one (.agg (.cons (.agg (.one (.ints .u64 4))) (.cons (.agg (.one (.ints .u64 4))) (.cons (.agg (.one (.ints .u64 4))) (.cons (.agg (.one (.ints .u64 4))) (.cons (.ints .u64 4) (.cons (.ints .u64 4) (.cons (.ints .u64 4) (.cons (.dvw 32 34 (.tc (.agg (.ints .u64 4)))) (.cons (.dvw 33 34 (.tc (.agg (.ints .u64 4)))) (.cons (.ints .u64 4) (.one (.ints .u64 4))))))))))))))
def fR_wire_EncodeProof_of_msm_Line : Ent (Unit) := .nil
def fM_wire_EncodeProof_of_msm_Line : Ent (Unit) := .nil
def fB_wire_EncodeProof_of_msm_Line : Pt ((List (Int) × Int)) := (.tup (.cons (.dvw 64 5 (.tc (.int .u8))) (.one (.int .i64))))
def fE_wire_EncodeProof_of_msm_Line : Ent (Unit) := (.one 64 (.lit (.dc (.tc (.int .u8)) [])))
abbrev SIO_wire_EncodeProof_of_msm_Line (w0 : World) (N : Nat) : Prop := SoundIo Tryd.prog w0 7 64 88 fA_wire_EncodeProof_of_msm_Line fR_wire_EncodeProof_of_msm_Line fM_wire_EncodeProof_of_msm_Line fB_wire_EncodeProof_of_msm_Line fE_wire_EncodeProof_of_msm_Line [] (fun x => wire_EncodeProof_of_msm_Line N x.1 x.2.1 x.2.2)
def cs_wire_EncodeProof_of_msm_Line (N : Nat) : List (FuncId × Ct) := [(4294967295, fzCt), (29, (ct_scalar_Scalar_Encode N))]
def gs_wire_EncodeProof_of_msm_Line : List Gv := []
noncomputable abbrev is0_wire_EncodeProof_of_msm_Line (N : Nat) : List (FuncId × Inl) := ((117, (inlOf Tryd.prog (cs_wire_EncodeProof_of_msm_Line N) gs_wire_EncodeProof_of_msm_Line 64 100 [] Tryd.f117)) :: [])
theorem isok0_wire_EncodeProof_of_msm_Line {w0 : World} (N : Nat) (hcs : ∀ x ∈ cs_wire_EncodeProof_of_msm_Line N, SoundAt Tryd.prog w0 x.1 x.2) : AllOK Tryd.prog w0 gs_wire_EncodeProof_of_msm_Line 64 (is0_wire_EncodeProof_of_msm_Line N) := allok_cons (one_of hcs allok_nil Tryd.func117 (by kernel_rfl) (by kernel_rfl)) allok_nil
noncomputable abbrev is1_wire_EncodeProof_of_msm_Line (N : Nat) : List (FuncId × Inl) := ((28, (inlOf Tryd.prog (cs_wire_EncodeProof_of_msm_Line N) gs_wire_EncodeProof_of_msm_Line 64 100 (is0_wire_EncodeProof_of_msm_Line N) Tryd.f28)) :: (is0_wire_EncodeProof_of_msm_Line N))
theorem isok1_wire_EncodeProof_of_msm_Line {w0 : World} (N : Nat) (hcs : ∀ x ∈ cs_wire_EncodeProof_of_msm_Line N, SoundAt Tryd.prog w0 x.1 x.2) : AllOK Tryd.prog w0 gs_wire_EncodeProof_of_msm_Line 64 (is1_wire_EncodeProof_of_msm_Line N) := allok_cons (one_of hcs (isok0_wire_EncodeProof_of_msm_Line N hcs) Tryd.func28 (by kernel_rfl) (by kernel_rfl)) (isok0_wire_EncodeProof_of_msm_Line N hcs)
noncomputable abbrev is_wire_EncodeProof_of_msm_Line (N : Nat) : List (FuncId × Inl) := (is1_wire_EncodeProof_of_msm_Line N)
theorem isok_wire_EncodeProof_of_msm_Line {w0 : World} (N : Nat) (hcs : ∀ x ∈ cs_wire_EncodeProof_of_msm_Line N, SoundAt Tryd.prog w0 x.1 x.2) : AllOK Tryd.prog w0 gs_wire_EncodeProof_of_msm_Line 64 (is_wire_EncodeProof_of_msm_Line N) := (isok1_wire_EncodeProof_of_msm_Line N hcs)
def wire_EncodeProof_of_msm_Line_l4_H : Fm ((Unit × Unit × Unit × Unit × Unit × List (List Int) × Int × Int)) (((List Int × List Int × List Int × List Int × List Int × List Int × List Int × List (List Int) × List (List Int) × List Int × List Int) × List (Int) × Unit)) := ⟨(.cons 1 (.lit (.ptr 88 [] 37)) (.cons 2 (.lit .nils) (.cons 3 (.lit (.int .i64 0)) (.cons 4 (.lit (.ptr 104 [] 29)) (.cons 5 (.lit (.clo 28 [(.ptr 104 [] 29)])) (.cons 60 (.dvw 32 34 (.tc (.agg (.ints .u64 4)))) (.cons 61 (.int .i64) (.one 62 (.int .i64))))))))), (.cons 88 (.agg (.cons (.agg (.one (.ints .u64 4))) (.cons (.agg (.one (.ints .u64 4))) (.cons (.agg (.one (.ints .u64 4))) (.cons (.agg (.one (.ints .u64 4))) (.cons (.ints .u64 4) (.cons (.ints .u64 4) (.cons (.ints .u64 4) (.cons (.dvw 32 34 (.tc (.agg (.ints .u64 4)))) (.cons (.dvw 33 34 (.tc (.agg (.ints .u64 4)))) (.cons (.ints .u64 4) (.one (.ints .u64 4))))))))))))) (.cons 104 (.dvw 303 5 (.tc (.int .u8))) (.one 303 (.lit (.dc (.tc (.int .u8)) [])))))⟩
def wire_EncodeProof_of_msm_Line_l4_O : Fm ((Unit × Unit × Unit)) (((List Int × List Int × List Int × List Int × List Int × List Int × List Int × List (List Int) × List (List Int) × List Int × List Int) × List (Int) × Unit)) := ⟨(.cons 1 (.lit (.ptr 88 [] 37)) (.cons 4 (.lit (.ptr 104 [] 29)) (.one 5 (.lit (.clo 28 [(.ptr 104 [] 29)]))))), (.cons 88 (.agg (.cons (.agg (.one (.ints .u64 4))) (.cons (.agg (.one (.ints .u64 4))) (.cons (.agg (.one (.ints .u64 4))) (.cons (.agg (.one (.ints .u64 4))) (.cons (.ints .u64 4) (.cons (.ints .u64 4) (.cons (.ints .u64 4) (.cons (.dvw 32 34 (.tc (.agg (.ints .u64 4)))) (.cons (.dvw 33 34 (.tc (.agg (.ints .u64 4)))) (.cons (.ints .u64 4) (.one (.ints .u64 4))))))))))))) (.cons 104 (.dvw 303 5 (.tc (.int .u8))) (.one 303 (.lit (.dc (.tc (.int .u8)) [])))))⟩
def wire_EncodeProof_of_msm_Line_l4_T : Fm (Unit) (Unit) := ⟨.nil, .nil⟩
noncomputable def ls_wire_EncodeProof_of_msm_Line (N : Nat) : List (Nat × Lf) := [(4, loopCt wire_EncodeProof_of_msm_Line_l4_H wire_EncodeProof_of_msm_Line_l4_O wire_EncodeProof_of_msm_Line_l4_T 308 (wire_EncodeProof_of_msm_Line_l4 N) N)]
theorem wire_EncodeProof_of_msm_Line_l4_step (N : Nat) : StepIs Tryd.prog (cxIn Tryd.f7 (cs_wire_EncodeProof_of_msm_Line N) gs_wire_EncodeProof_of_msm_Line 64 (is_wire_EncodeProof_of_msm_Line N)) (ls_wire_EncodeProof_of_msm_Line N) Tryd.f7 4 308 wire_EncodeProof_of_msm_Line_l4_H wire_EncodeProof_of_msm_Line_l4_O wire_EncodeProof_of_msm_Line_l4_T (wire_EncodeProof_of_msm_Line_l4 N) := by
  intro v; kernel_rfl
theorem r_wire_EncodeProof_of_msm_Line (N : Nat) : IoRunIs Tryd.prog (cs_wire_EncodeProof_of_msm_Line N) gs_wire_EncodeProof_of_msm_Line 64 (is_wire_EncodeProof_of_msm_Line N) (ls_wire_EncodeProof_of_msm_Line N) Tryd.f7 88 fA_wire_EncodeProof_of_msm_Line fR_wire_EncodeProof_of_msm_Line fM_wire_EncodeProof_of_msm_Line fB_wire_EncodeProof_of_msm_Line fE_wire_EncodeProof_of_msm_Line [] (fun x => wire_EncodeProof_of_msm_Line N x.1 x.2.1 x.2.2) := by
  intro x; kernel_rfl
theorem s_wire_EncodeProof_of_msm_Line {w0 : World} (N : Nat)  (hcs : ∀ x ∈ cs_wire_EncodeProof_of_msm_Line N, SoundAt Tryd.prog w0 x.1 x.2) : SIO_wire_EncodeProof_of_msm_Line w0 N := by
  have L4 : ∀ w : Base, w.g = w0 → ∀ ρk, LoopOKX Tryd.prog (cxIn Tryd.f7 (cs_wire_EncodeProof_of_msm_Line N) gs_wire_EncodeProof_of_msm_Line 64 (is_wire_EncodeProof_of_msm_Line N)) w (Kp [] ρk) 4 (.loop (loopBody Tryd.f7 4)) (loopCt wire_EncodeProof_of_msm_Line_l4_H wire_EncodeProof_of_msm_Line_l4_O wire_EncodeProof_of_msm_Line_l4_T 308 (wire_EncodeProof_of_msm_Line_l4 N) N) :=
    loop_printedK hcs (isok_wire_EncodeProof_of_msm_Line N hcs) (ls := ls_wire_EncodeProof_of_msm_Line N) (n := 100) (by kernel_rfl) (wire_EncodeProof_of_msm_Line_l4_step N) N fun w hw ρk => loopsOK_list (lp_no (by kernel_rfl) lp_nil)
  exact io_printed hcs (glob_nil _ _) (isok_wire_EncodeProof_of_msm_Line N hcs) Tryd.func7 (by kernel_rfl) (by kernel_rfl) (fun w hw ρk => loopsOK_list (lp_yes (L4 w hw ρk) (by kernel_rfl) lp_nil)) (by kernel_rfl) (r_wire_EncodeProof_of_msm_Line N)
theorem k_wire_EncodeProof_of_msm_Line {w0 : World} (N : Nat)  (hg_scalar_lower : GlobOK Tryd.prog w0 gs_scalar_lower) (hg_scalar_Scalar_Least : GlobOK Tryd.prog w0 gs_scalar_Scalar_Least) : SIO_wire_EncodeProof_of_msm_Line w0 N :=
  s_wire_EncodeProof_of_msm_Line N (cs_fz (cs_cons (k_scalar_Scalar_Encode N hg_scalar_lower hg_scalar_Scalar_Least) cs_nil))

abbrev A_msm_Line_Same : Ag ((List Int × List Int)) := (.cons (.agg (.one (.ints .u64 4))) (.one (.agg (.one (.ints .u64 4)))))
abbrev B_msm_Line_Same : Pt (Bool) := .bool
def ct_msm_Line_Same : Ct := fct A_msm_Line_Same B_msm_Line_Same fun x => msm_Line_Same x.1 x.2
def cs_msm_Line_Same : List (FuncId × Ct) := [(39, ct_scalar_Scalar_Same)]
def gs_msm_Line_Same : List Gv := []
noncomputable def ls_msm_Line_Same : List (Nat × Lf) := []
theorem r_msm_Line_Same : RunIs Tryd.prog (cs_msm_Line_Same) gs_msm_Line_Same 0 (ls_msm_Line_Same) Tryd.f37 A_msm_Line_Same B_msm_Line_Same (fun x => msm_Line_Same x.1 x.2) := by
  intro x; kernel_rfl
theorem s_msm_Line_Same {w0 : World}  (hcs : ∀ x ∈ cs_msm_Line_Same, SoundAt Tryd.prog w0 x.1 x.2) : SoundAt Tryd.prog w0 37 ct_msm_Line_Same := by
  exact fn_printed hcs (glob_nil _ _) Tryd.func37 (by kernel_rfl) (by kernel_rfl) (S := 0) (fun w _ => loopsOK_nil _) (fun _ => rfl) (r_msm_Line_Same)
theorem k_msm_Line_Same {w0 : World}  (hg_scalar_lower : GlobOK Tryd.prog w0 gs_scalar_lower) (hg_scalar_Scalar_Least : GlobOK Tryd.prog w0 gs_scalar_Scalar_Least) : SoundAt Tryd.prog w0 37 ct_msm_Line_Same :=
  s_msm_Line_Same (cs_cons (k_scalar_Scalar_Same hg_scalar_lower hg_scalar_Scalar_Least) cs_nil)

def fA_veillaw10_alike : Ag (((List Int × List Int × List Int × List Int × List Int × List Int × List Int × List (List Int) × List (List Int) × List Int × List Int) × (List Int × List Int × List Int × List Int × List Int × List Int × List Int × List (List Int) × List (List Int) × List Int × List Int))) := (.cons (.agg (.cons (.agg (.one (.ints .u64 4))) (.cons (.agg (.one (.ints .u64 4))) (.cons (.agg (.one (.ints .u64 4))) (.cons (.agg (.one (.ints .u64 4))) (.cons (.ints .u64 4) (.cons (.ints .u64 4) (.cons (.ints .u64 4) (.cons (.dvw 32 34 (.tc (.agg (.ints .u64 4)))) (.cons (.dvw 33 34 (.tc (.agg (.ints .u64 4)))) (.cons (.ints .u64 4) (.one (.ints .u64 4))))))))))))) (.one (.agg (.cons (.agg (.one (.ints .u64 4))) (.cons (.agg (.one (.ints .u64 4))) (.cons (.agg (.one (.ints .u64 4))) (.cons (.agg (.one (.ints .u64 4))) (.cons (.ints .u64 4) (.cons (.ints .u64 4) (.cons (.ints .u64 4) (.cons (.dvw 34 34 (.tc (.agg (.ints .u64 4)))) (.cons (.dvw 35 34 (.tc (.agg (.ints .u64 4)))) (.cons (.ints .u64 4) (.one (.ints .u64 4)))))))))))))))
def fR_veillaw10_alike : Ent (Unit) := .nil
def fM_veillaw10_alike : Ent (Unit) := .nil
def fB_veillaw10_alike : Pt (Bool) := .bool
def fE_veillaw10_alike : Ent (Unit) := .nil
abbrev SIO_veillaw10_alike (w0 : World) (N : Nat) : Prop := SoundIo Tryd.prog w0 17 64 88 fA_veillaw10_alike fR_veillaw10_alike fM_veillaw10_alike fB_veillaw10_alike fE_veillaw10_alike [] (fun x => veillaw10_alike N x.1 x.2.1 x.2.2)
def cs_veillaw10_alike (N : Nat) : List (FuncId × Ct) := [(37, ct_msm_Line_Same), (39, ct_scalar_Scalar_Same)]
def gs_veillaw10_alike : List Gv := []
noncomputable abbrev is0_veillaw10_alike (N : Nat) : List (FuncId × Inl) := ((38, (inlOf Tryd.prog (cs_veillaw10_alike N) gs_veillaw10_alike 64 100 [] Tryd.f38)) :: [])
theorem isok0_veillaw10_alike {w0 : World} (N : Nat) (hcs : ∀ x ∈ cs_veillaw10_alike N, SoundAt Tryd.prog w0 x.1 x.2) : AllOK Tryd.prog w0 gs_veillaw10_alike 64 (is0_veillaw10_alike N) := allok_cons (one_of hcs allok_nil Tryd.func38 (by kernel_rfl) (by kernel_rfl)) allok_nil
noncomputable abbrev is_veillaw10_alike (N : Nat) : List (FuncId × Inl) := (is0_veillaw10_alike N)
theorem isok_veillaw10_alike {w0 : World} (N : Nat) (hcs : ∀ x ∈ cs_veillaw10_alike N, SoundAt Tryd.prog w0 x.1 x.2) : AllOK Tryd.prog w0 gs_veillaw10_alike 64 (is_veillaw10_alike N) := (isok0_veillaw10_alike N hcs)
def veillaw10_alike_l0_H : Fm ((Unit × Unit × Unit × Int)) (((List Int × List Int × List Int × List Int × List Int × List Int × List Int × List (List Int) × List (List Int) × List Int × List Int) × (List Int × List Int × List Int × List Int × List Int × List Int × List Int × List (List Int) × List (List Int) × List Int × List Int))) := ⟨(.cons 2 (.lit (.ptr 88 [] 37)) (.cons 3 (.lit (.ptr 89 [] 37)) (.cons 4 (.lit (.bool false)) (.one 5 (.int .i64))))), (.cons 88 (.agg (.cons (.agg (.one (.ints .u64 4))) (.cons (.agg (.one (.ints .u64 4))) (.cons (.agg (.one (.ints .u64 4))) (.cons (.agg (.one (.ints .u64 4))) (.cons (.ints .u64 4) (.cons (.ints .u64 4) (.cons (.ints .u64 4) (.cons (.dvw 32 34 (.tc (.agg (.ints .u64 4)))) (.cons (.dvw 33 34 (.tc (.agg (.ints .u64 4)))) (.cons (.ints .u64 4) (.one (.ints .u64 4))))))))))))) (.one 89 (.agg (.cons (.agg (.one (.ints .u64 4))) (.cons (.agg (.one (.ints .u64 4))) (.cons (.agg (.one (.ints .u64 4))) (.cons (.agg (.one (.ints .u64 4))) (.cons (.ints .u64 4) (.cons (.ints .u64 4) (.cons (.ints .u64 4) (.cons (.dvw 34 34 (.tc (.agg (.ints .u64 4)))) (.cons (.dvw 35 34 (.tc (.agg (.ints .u64 4)))) (.cons (.ints .u64 4) (.one (.ints .u64 4)))))))))))))))⟩
def veillaw10_alike_l0_O : Fm ((Unit × Unit)) (((List Int × List Int × List Int × List Int × List Int × List Int × List Int × List (List Int) × List (List Int) × List Int × List Int) × (List Int × List Int × List Int × List Int × List Int × List Int × List Int × List (List Int) × List (List Int) × List Int × List Int))) := ⟨(.cons 2 (.lit (.ptr 88 [] 37)) (.one 3 (.lit (.ptr 89 [] 37)))), (.cons 88 (.agg (.cons (.agg (.one (.ints .u64 4))) (.cons (.agg (.one (.ints .u64 4))) (.cons (.agg (.one (.ints .u64 4))) (.cons (.agg (.one (.ints .u64 4))) (.cons (.ints .u64 4) (.cons (.ints .u64 4) (.cons (.ints .u64 4) (.cons (.dvw 32 34 (.tc (.agg (.ints .u64 4)))) (.cons (.dvw 33 34 (.tc (.agg (.ints .u64 4)))) (.cons (.ints .u64 4) (.one (.ints .u64 4))))))))))))) (.one 89 (.agg (.cons (.agg (.one (.ints .u64 4))) (.cons (.agg (.one (.ints .u64 4))) (.cons (.agg (.one (.ints .u64 4))) (.cons (.agg (.one (.ints .u64 4))) (.cons (.ints .u64 4) (.cons (.ints .u64 4) (.cons (.ints .u64 4) (.cons (.dvw 34 34 (.tc (.agg (.ints .u64 4)))) (.cons (.dvw 35 34 (.tc (.agg (.ints .u64 4)))) (.cons (.ints .u64 4) (.one (.ints .u64 4)))))))))))))))⟩
def veillaw10_alike_l0_T : Fm (Unit) (Unit) := ⟨(.one 4 (.lit (.bool false))), .nil⟩
noncomputable def ls_veillaw10_alike (N : Nat) : List (Nat × Lf) := [(0, loopCt veillaw10_alike_l0_H veillaw10_alike_l0_O veillaw10_alike_l0_T 94 (veillaw10_alike_l0 N) N)]
theorem veillaw10_alike_l0_step (N : Nat) : StepIs Tryd.prog (cxIn Tryd.f17 (cs_veillaw10_alike N) gs_veillaw10_alike 64 (is_veillaw10_alike N)) (ls_veillaw10_alike N) Tryd.f17 0 94 veillaw10_alike_l0_H veillaw10_alike_l0_O veillaw10_alike_l0_T (veillaw10_alike_l0 N) := by
  intro v; kernel_rfl
theorem r_veillaw10_alike (N : Nat) : IoRunIs Tryd.prog (cs_veillaw10_alike N) gs_veillaw10_alike 64 (is_veillaw10_alike N) (ls_veillaw10_alike N) Tryd.f17 88 fA_veillaw10_alike fR_veillaw10_alike fM_veillaw10_alike fB_veillaw10_alike fE_veillaw10_alike [] (fun x => veillaw10_alike N x.1 x.2.1 x.2.2) := by
  intro x; kernel_rfl
theorem s_veillaw10_alike {w0 : World} (N : Nat)  (hcs : ∀ x ∈ cs_veillaw10_alike N, SoundAt Tryd.prog w0 x.1 x.2) : SIO_veillaw10_alike w0 N := by
  have L0 : ∀ w : Base, w.g = w0 → ∀ ρk, LoopOKX Tryd.prog (cxIn Tryd.f17 (cs_veillaw10_alike N) gs_veillaw10_alike 64 (is_veillaw10_alike N)) w (Kp [] ρk) 0 (.loop (loopBody Tryd.f17 0)) (loopCt veillaw10_alike_l0_H veillaw10_alike_l0_O veillaw10_alike_l0_T 94 (veillaw10_alike_l0 N) N) :=
    loop_printedK hcs (isok_veillaw10_alike N hcs) (ls := ls_veillaw10_alike N) (n := 100) (by kernel_rfl) (veillaw10_alike_l0_step N) N fun w hw ρk => loopsOK_list (lp_no (by kernel_rfl) lp_nil)
  exact io_printed hcs (glob_nil _ _) (isok_veillaw10_alike N hcs) Tryd.func17 (by kernel_rfl) (by kernel_rfl) (fun w hw ρk => loopsOK_list (lp_yes (L0 w hw ρk) (by kernel_rfl) lp_nil)) (by kernel_rfl) (r_veillaw10_alike N)
theorem k_veillaw10_alike {w0 : World} (N : Nat)  (hg_scalar_lower : GlobOK Tryd.prog w0 gs_scalar_lower) (hg_scalar_Scalar_Least : GlobOK Tryd.prog w0 gs_scalar_Scalar_Least) : SIO_veillaw10_alike w0 N :=
  s_veillaw10_alike N (cs_cons (k_msm_Line_Same hg_scalar_lower hg_scalar_Scalar_Least) (cs_cons (k_scalar_Scalar_Same hg_scalar_lower hg_scalar_Scalar_Least) cs_nil))

abbrev A_wire_AppendNumber_nil : Ag ((Unit × Int)) := (.cons (.lit .nils) (.one (.int .u64)))
abbrev B_wire_AppendNumber_nil : Pt (((Nat × List Int) × Unit)) := (.tup (.cons (.lst .u8) (.one (.lit (.clo 5 [])))))
def ct_wire_AppendNumber_nil (N : Nat) : Ct := fct A_wire_AppendNumber_nil B_wire_AppendNumber_nil fun x => wire_AppendNumber_nil N x.1 x.2
def cs_wire_AppendNumber_nil (N : Nat) : List (FuncId × Ct) := []
def gs_wire_AppendNumber_nil : List Gv := []
noncomputable abbrev is0_wire_AppendNumber_nil (N : Nat) : List (FuncId × Inl) := ((56, inlOf Tryd.prog (cs_wire_AppendNumber_nil N) gs_wire_AppendNumber_nil 0 100 [] Tryd.f56) :: [])
theorem isok0_wire_AppendNumber_nil (N : Nat) : InlAll Tryd.prog (cs_wire_AppendNumber_nil N) gs_wire_AppendNumber_nil 0 100 (is0_wire_AppendNumber_nil N) := ⟨⟨Tryd.f56, Tryd.func56, by kernel_rfl, by kernel_rfl, rfl⟩, trivial⟩
noncomputable abbrev is1_wire_AppendNumber_nil (N : Nat) : List (FuncId × Inl) := ((43, inlOf Tryd.prog (cs_wire_AppendNumber_nil N) gs_wire_AppendNumber_nil 0 100 (is0_wire_AppendNumber_nil N) Tryd.f43) :: (is0_wire_AppendNumber_nil N))
theorem isok1_wire_AppendNumber_nil (N : Nat) : InlAll Tryd.prog (cs_wire_AppendNumber_nil N) gs_wire_AppendNumber_nil 0 100 (is1_wire_AppendNumber_nil N) := ⟨⟨Tryd.f43, Tryd.func43, by kernel_rfl, by kernel_rfl, rfl⟩, (isok0_wire_AppendNumber_nil N)⟩
noncomputable abbrev is_wire_AppendNumber_nil (N : Nat) : List (FuncId × Inl) := (is1_wire_AppendNumber_nil N)
theorem isok_wire_AppendNumber_nil (N : Nat) : InlAll Tryd.prog (cs_wire_AppendNumber_nil N) gs_wire_AppendNumber_nil 0 100 (is_wire_AppendNumber_nil N) := (isok1_wire_AppendNumber_nil N)
def wire_AppendNumber_nil_l0_H : Fm ((Int × Unit × Nat)) ((Nat × List Int)) := ⟨(.cons 1 (.int .u64) (.cons 4 (.lit .nils) (.one 5 (.gsw 0 5)))), (.one 0 (.lst .u8))⟩
def wire_AppendNumber_nil_l0_O : Fm ((Int × Nat)) ((Nat × List Int)) := ⟨(.cons 1 (.int .u64) (.one 5 (.gsw 0 5))), (.one 0 (.lst .u8))⟩
def wire_AppendNumber_nil_l0_T : Fm (Unit) (Unit) := ⟨.nil, .nil⟩
noncomputable def ls_wire_AppendNumber_nil (N : Nat) : List (Nat × Lf) := [(0, loopCt wire_AppendNumber_nil_l0_H wire_AppendNumber_nil_l0_O wire_AppendNumber_nil_l0_T 4 (wire_AppendNumber_nil_l0 N) N)]
theorem wire_AppendNumber_nil_l0_step (N : Nat) : StepIs Tryd.prog (cxIn Tryd.f20 (cs_wire_AppendNumber_nil N) gs_wire_AppendNumber_nil 0 (is_wire_AppendNumber_nil N)) (ls_wire_AppendNumber_nil N) Tryd.f20 0 4 wire_AppendNumber_nil_l0_H wire_AppendNumber_nil_l0_O wire_AppendNumber_nil_l0_T (wire_AppendNumber_nil_l0 N) := by
  intro v; kernel_rfl
theorem r_wire_AppendNumber_nil (N : Nat) : RunIs Tryd.prog (cs_wire_AppendNumber_nil N) gs_wire_AppendNumber_nil 0 (ls_wire_AppendNumber_nil N) Tryd.f20 A_wire_AppendNumber_nil B_wire_AppendNumber_nil (fun x => wire_AppendNumber_nil N x.1 x.2) (fun g => lkI g (is_wire_AppendNumber_nil N)) := by
  intro x; kernel_rfl
theorem s_wire_AppendNumber_nil {w0 : World} (N : Nat)  (hcs : ∀ x ∈ cs_wire_AppendNumber_nil N, SoundAt Tryd.prog w0 x.1 x.2) : SoundAt Tryd.prog w0 20 (ct_wire_AppendNumber_nil N) := by
  have L0 : ∀ w : Base, w.g = w0 → LoopOK Tryd.prog (cxIn Tryd.f20 (cs_wire_AppendNumber_nil N) gs_wire_AppendNumber_nil 0 (is_wire_AppendNumber_nil N)) w 0 (.loop (loopBody Tryd.f20 0)) (loopCt wire_AppendNumber_nil_l0_H wire_AppendNumber_nil_l0_O wire_AppendNumber_nil_l0_T 4 (wire_AppendNumber_nil_l0 N) N) :=
    loop_printedI hcs (isok_wire_AppendNumber_nil N) (ls := ls_wire_AppendNumber_nil N) (n := 100) (by kernel_rfl) (wire_AppendNumber_nil_l0_step N) N fun w hw => loopsOK_list (lp_no (by kernel_rfl) lp_nil)
  exact fn_printedI hcs (glob_nil _ _) (isok_wire_AppendNumber_nil N) Tryd.func20 (by kernel_rfl) (by kernel_rfl) (S := 0) (fun w hw => loopsOK_list (lp_yes (L0 w hw) (by kernel_rfl) lp_nil)) (fun _ => rfl) (r_wire_AppendNumber_nil N)
theorem k_wire_AppendNumber_nil {w0 : World} (N : Nat)  : SoundAt Tryd.prog w0 20 (ct_wire_AppendNumber_nil N) :=
  s_wire_AppendNumber_nil N cs_nil

abbrev A_veillaw10_live : Ag (Unit) := .nil
abbrev B_veillaw10_live : Pt (Bool) := .bool
def ct_veillaw10_live (N : Nat) : Ct := fct A_veillaw10_live B_veillaw10_live fun x => veillaw10_live N
def cs_veillaw10_live (N : Nat) : List (FuncId × Ct) := [(4294967295, fzCt), (20, (ct_wire_AppendNumber_nil N))]
def gs_veillaw10_live : List Gv := []
noncomputable abbrev is0_veillaw10_live (N : Nat) : List (FuncId × Inl) := ((21, (Inl.ct Tryd.prog 0 64 88 fA_wire_NewReader fR_wire_NewReader fM_wire_NewReader fB_wire_NewReader fE_wire_NewReader [] (fun x => wire_NewReader x.1 x.2.1 x.2.2))) :: [])
theorem isok0_veillaw10_live {w0 : World} (N : Nat) (hcs : ∀ x ∈ cs_veillaw10_live N, SoundAt Tryd.prog w0 x.1 x.2) (hf21 : SIO_wire_NewReader w0) (hf24 : SIO_p_wire_Reader_Number w0) (hf35 : SIO_p_wire_Reader_End w0) : AllOK Tryd.prog w0 gs_veillaw10_live 0 (is0_veillaw10_live N) := allok_cons (one_ct hf21 (by kernel_rfl) rfl) allok_nil
noncomputable abbrev is1_veillaw10_live (N : Nat) : List (FuncId × Inl) := ((24, (Inl.ct Tryd.prog 0 64 89 fA_p_wire_Reader_Number fR_p_wire_Reader_Number fM_p_wire_Reader_Number fB_p_wire_Reader_Number fE_p_wire_Reader_Number [32, 64] (fun x => p_wire_Reader_Number x.1 x.2.1 x.2.2))) :: (is0_veillaw10_live N))
theorem isok1_veillaw10_live {w0 : World} (N : Nat) (hcs : ∀ x ∈ cs_veillaw10_live N, SoundAt Tryd.prog w0 x.1 x.2) (hf21 : SIO_wire_NewReader w0) (hf24 : SIO_p_wire_Reader_Number w0) (hf35 : SIO_p_wire_Reader_End w0) : AllOK Tryd.prog w0 gs_veillaw10_live 0 (is1_veillaw10_live N) := allok_cons (one_ct hf24 (by kernel_rfl) rfl) (isok0_veillaw10_live N hcs hf21 hf24 hf35)
noncomputable abbrev is2_veillaw10_live (N : Nat) : List (FuncId × Inl) := ((35, (Inl.ct Tryd.prog 0 64 89 fA_p_wire_Reader_End fR_p_wire_Reader_End fM_p_wire_Reader_End fB_p_wire_Reader_End fE_p_wire_Reader_End [32, 64] (fun x => p_wire_Reader_End x.1 x.2.1 x.2.2))) :: (is1_veillaw10_live N))
theorem isok2_veillaw10_live {w0 : World} (N : Nat) (hcs : ∀ x ∈ cs_veillaw10_live N, SoundAt Tryd.prog w0 x.1 x.2) (hf21 : SIO_wire_NewReader w0) (hf24 : SIO_p_wire_Reader_Number w0) (hf35 : SIO_p_wire_Reader_End w0) : AllOK Tryd.prog w0 gs_veillaw10_live 0 (is2_veillaw10_live N) := allok_cons (one_ct hf35 (by kernel_rfl) rfl) (isok1_veillaw10_live N hcs hf21 hf24 hf35)
noncomputable abbrev is_veillaw10_live (N : Nat) : List (FuncId × Inl) := (is2_veillaw10_live N)
theorem isok_veillaw10_live {w0 : World} (N : Nat) (hcs : ∀ x ∈ cs_veillaw10_live N, SoundAt Tryd.prog w0 x.1 x.2) (hf21 : SIO_wire_NewReader w0) (hf24 : SIO_p_wire_Reader_Number w0) (hf35 : SIO_p_wire_Reader_End w0) : AllOK Tryd.prog w0 gs_veillaw10_live 0 (is_veillaw10_live N) := (isok2_veillaw10_live N hcs hf21 hf24 hf35)
noncomputable def ls_veillaw10_live (N : Nat) : List (Nat × Lf) := []
theorem r_veillaw10_live (N : Nat) : RunIs Tryd.prog (cs_veillaw10_live N) gs_veillaw10_live 0 (ls_veillaw10_live N) Tryd.f16 A_veillaw10_live B_veillaw10_live (fun x => veillaw10_live N) (fun g => lkI g (is_veillaw10_live N)) := by
  intro x; kernel_rfl
theorem s_veillaw10_live {w0 : World} (N : Nat)  (hcs : ∀ x ∈ cs_veillaw10_live N, SoundAt Tryd.prog w0 x.1 x.2) (hf21 : SIO_wire_NewReader w0) (hf24 : SIO_p_wire_Reader_Number w0) (hf35 : SIO_p_wire_Reader_End w0) : SoundAt Tryd.prog w0 16 (ct_veillaw10_live N) := by
  exact fn_printedO hcs (glob_nil _ _) (isok_veillaw10_live N hcs hf21 hf24 hf35) Tryd.func16 (by kernel_rfl) (by kernel_rfl) (S := 0) (fun w _ => loopsOK_nil _) (fun _ => rfl) (r_veillaw10_live N)
theorem k_veillaw10_live {w0 : World} (N : Nat)  : SoundAt Tryd.prog w0 16 (ct_veillaw10_live N) :=
  s_veillaw10_live N (cs_fz (cs_cons (k_wire_AppendNumber_nil N) cs_nil)) (k_wire_NewReader) (k_p_wire_Reader_Number) (k_p_wire_Reader_End)

def fA_veillaw10_WireProofs : Ag ((((List Int × List Int × List Int × List Int) × List Int × List Int × List Int × List (List Int) × List (List Int) × List Int × List Int) × List (Int) × List (Int))) := (.cons (.agg (.cons (.agg (.cons (.ints .u64 4) (.cons (.ints .u64 4) (.cons (.ints .u64 4) (.one (.ints .u64 4)))))) (.cons (.ints .u64 4) (.cons (.ints .u64 4) (.cons (.ints .u64 4) (.cons (.dvw 32 24 (.tc (.ints .u64 4))) (.cons (.dvw 33 24 (.tc (.ints .u64 4))) (.cons (.ints .u64 4) (.one (.ints .u64 4)))))))))) (.cons (.dvw 34 5 (.tc (.int .u8))) (.one (.dvw 35 5 (.tc (.int .u8))))))
def fR_veillaw10_WireProofs : Ent (Unit) := .nil
def fM_veillaw10_WireProofs : Ent (Unit) := .nil
def fB_veillaw10_WireProofs : Pt (Bool) := .bool
def fE_veillaw10_WireProofs : Ent (Unit) := .nil
abbrev SIO_veillaw10_WireProofs (w0 : World) (N : Nat) : Prop := SoundIo Tryd.prog w0 5 64 88 fA_veillaw10_WireProofs fR_veillaw10_WireProofs fM_veillaw10_WireProofs fB_veillaw10_WireProofs fE_veillaw10_WireProofs [] (fun x => veillaw10_WireProofs N x.1 x.2.1 x.2.2)
def cs_veillaw10_WireProofs (N : Nat) : List (FuncId × Ct) := [(4294967295, fzCt), (16, (ct_veillaw10_live N))]
def gs_veillaw10_WireProofs : List Gv := []
noncomputable abbrev is0_veillaw10_WireProofs (N : Nat) : List (FuncId × Inl) := ((8, (Inl.ct Tryd.prog 64 64 88 fA_veillaw10_WireProof_line fR_veillaw10_WireProof_line fM_veillaw10_WireProof_line fB_veillaw10_WireProof_line fE_veillaw10_WireProof_line [] (fun x => veillaw10_WireProof_line N x.1 x.2.1 x.2.2))) :: [])
theorem isok0_veillaw10_WireProofs {w0 : World} (N : Nat) (hcs : ∀ x ∈ cs_veillaw10_WireProofs N, SoundAt Tryd.prog w0 x.1 x.2) (hf8 : SIO_veillaw10_WireProof_line w0 N) (hf7 : SIO_wire_EncodeProof_of_msm_Line w0 N) (hf11 : SIO_wire_DecodeProof_of_msm_Line w0 N) (hf17 : SIO_veillaw10_alike w0 N) : AllOK Tryd.prog w0 gs_veillaw10_WireProofs 64 (is0_veillaw10_WireProofs N) := allok_cons (one_ct hf8 (by kernel_rfl) rfl) allok_nil
noncomputable abbrev is1_veillaw10_WireProofs (N : Nat) : List (FuncId × Inl) := ((7, (Inl.ct Tryd.prog 64 64 88 fA_wire_EncodeProof_of_msm_Line fR_wire_EncodeProof_of_msm_Line fM_wire_EncodeProof_of_msm_Line fB_wire_EncodeProof_of_msm_Line fE_wire_EncodeProof_of_msm_Line [] (fun x => wire_EncodeProof_of_msm_Line N x.1 x.2.1 x.2.2))) :: (is0_veillaw10_WireProofs N))
theorem isok1_veillaw10_WireProofs {w0 : World} (N : Nat) (hcs : ∀ x ∈ cs_veillaw10_WireProofs N, SoundAt Tryd.prog w0 x.1 x.2) (hf8 : SIO_veillaw10_WireProof_line w0 N) (hf7 : SIO_wire_EncodeProof_of_msm_Line w0 N) (hf11 : SIO_wire_DecodeProof_of_msm_Line w0 N) (hf17 : SIO_veillaw10_alike w0 N) : AllOK Tryd.prog w0 gs_veillaw10_WireProofs 64 (is1_veillaw10_WireProofs N) := allok_cons (one_ct hf7 (by kernel_rfl) rfl) (isok0_veillaw10_WireProofs N hcs hf8 hf7 hf11 hf17)
noncomputable abbrev is2_veillaw10_WireProofs (N : Nat) : List (FuncId × Inl) := ((11, (Inl.ct Tryd.prog 64 64 88 fA_wire_DecodeProof_of_msm_Line fR_wire_DecodeProof_of_msm_Line fM_wire_DecodeProof_of_msm_Line fB_wire_DecodeProof_of_msm_Line fE_wire_DecodeProof_of_msm_Line [] (fun x => wire_DecodeProof_of_msm_Line N x.1 x.2.1 x.2.2))) :: (is1_veillaw10_WireProofs N))
theorem isok2_veillaw10_WireProofs {w0 : World} (N : Nat) (hcs : ∀ x ∈ cs_veillaw10_WireProofs N, SoundAt Tryd.prog w0 x.1 x.2) (hf8 : SIO_veillaw10_WireProof_line w0 N) (hf7 : SIO_wire_EncodeProof_of_msm_Line w0 N) (hf11 : SIO_wire_DecodeProof_of_msm_Line w0 N) (hf17 : SIO_veillaw10_alike w0 N) : AllOK Tryd.prog w0 gs_veillaw10_WireProofs 64 (is2_veillaw10_WireProofs N) := allok_cons (one_ct hf11 (by kernel_rfl) rfl) (isok1_veillaw10_WireProofs N hcs hf8 hf7 hf11 hf17)
noncomputable abbrev is3_veillaw10_WireProofs (N : Nat) : List (FuncId × Inl) := ((17, (Inl.ct Tryd.prog 64 64 88 fA_veillaw10_alike fR_veillaw10_alike fM_veillaw10_alike fB_veillaw10_alike fE_veillaw10_alike [] (fun x => veillaw10_alike N x.1 x.2.1 x.2.2))) :: (is2_veillaw10_WireProofs N))
theorem isok3_veillaw10_WireProofs {w0 : World} (N : Nat) (hcs : ∀ x ∈ cs_veillaw10_WireProofs N, SoundAt Tryd.prog w0 x.1 x.2) (hf8 : SIO_veillaw10_WireProof_line w0 N) (hf7 : SIO_wire_EncodeProof_of_msm_Line w0 N) (hf11 : SIO_wire_DecodeProof_of_msm_Line w0 N) (hf17 : SIO_veillaw10_alike w0 N) : AllOK Tryd.prog w0 gs_veillaw10_WireProofs 64 (is3_veillaw10_WireProofs N) := allok_cons (one_ct hf17 (by kernel_rfl) rfl) (isok2_veillaw10_WireProofs N hcs hf8 hf7 hf11 hf17)
noncomputable abbrev is4_veillaw10_WireProofs (N : Nat) : List (FuncId × Inl) := ((9, (inlOf Tryd.prog (cs_veillaw10_WireProofs N) gs_veillaw10_WireProofs 64 100 (is3_veillaw10_WireProofs N) Tryd.f9)) :: (is3_veillaw10_WireProofs N))
theorem isok4_veillaw10_WireProofs {w0 : World} (N : Nat) (hcs : ∀ x ∈ cs_veillaw10_WireProofs N, SoundAt Tryd.prog w0 x.1 x.2) (hf8 : SIO_veillaw10_WireProof_line w0 N) (hf7 : SIO_wire_EncodeProof_of_msm_Line w0 N) (hf11 : SIO_wire_DecodeProof_of_msm_Line w0 N) (hf17 : SIO_veillaw10_alike w0 N) : AllOK Tryd.prog w0 gs_veillaw10_WireProofs 64 (is4_veillaw10_WireProofs N) := allok_cons (one_of hcs (isok3_veillaw10_WireProofs N hcs hf8 hf7 hf11 hf17) Tryd.func9 (by kernel_rfl) (by kernel_rfl)) (isok3_veillaw10_WireProofs N hcs hf8 hf7 hf11 hf17)
noncomputable abbrev is_veillaw10_WireProofs (N : Nat) : List (FuncId × Inl) := (is4_veillaw10_WireProofs N)
theorem isok_veillaw10_WireProofs {w0 : World} (N : Nat) (hcs : ∀ x ∈ cs_veillaw10_WireProofs N, SoundAt Tryd.prog w0 x.1 x.2) (hf8 : SIO_veillaw10_WireProof_line w0 N) (hf7 : SIO_wire_EncodeProof_of_msm_Line w0 N) (hf11 : SIO_wire_DecodeProof_of_msm_Line w0 N) (hf17 : SIO_veillaw10_alike w0 N) : AllOK Tryd.prog w0 gs_veillaw10_WireProofs 64 (is_veillaw10_WireProofs N) := (isok4_veillaw10_WireProofs N hcs hf8 hf7 hf11 hf17)
noncomputable def ls_veillaw10_WireProofs (N : Nat) : List (Nat × Lf) := []
theorem r_veillaw10_WireProofs (N : Nat) : IoRunIs Tryd.prog (cs_veillaw10_WireProofs N) gs_veillaw10_WireProofs 64 (is_veillaw10_WireProofs N) (ls_veillaw10_WireProofs N) Tryd.f5 88 fA_veillaw10_WireProofs fR_veillaw10_WireProofs fM_veillaw10_WireProofs fB_veillaw10_WireProofs fE_veillaw10_WireProofs [] (fun x => veillaw10_WireProofs N x.1 x.2.1 x.2.2) := by
  intro x; kernel_rfl
theorem s_veillaw10_WireProofs {w0 : World} (N : Nat)  (hcs : ∀ x ∈ cs_veillaw10_WireProofs N, SoundAt Tryd.prog w0 x.1 x.2) (hf8 : SIO_veillaw10_WireProof_line w0 N) (hf7 : SIO_wire_EncodeProof_of_msm_Line w0 N) (hf11 : SIO_wire_DecodeProof_of_msm_Line w0 N) (hf17 : SIO_veillaw10_alike w0 N) : SIO_veillaw10_WireProofs w0 N := by
  exact io_printed hcs (glob_nil _ _) (isok_veillaw10_WireProofs N hcs hf8 hf7 hf11 hf17) Tryd.func5 (by kernel_rfl) (by kernel_rfl) (fun w _ _ => loopsOK_nil _) (by kernel_rfl) (r_veillaw10_WireProofs N)
theorem k_veillaw10_WireProofs {w0 : World} (N : Nat)  (hg_scalar_lower : GlobOK Tryd.prog w0 gs_scalar_lower) (hg_scalar_Scalar_Least : GlobOK Tryd.prog w0 gs_scalar_Scalar_Least) : SIO_veillaw10_WireProofs w0 N :=
  s_veillaw10_WireProofs N (cs_fz (cs_cons (k_veillaw10_live N) cs_nil)) (k_veillaw10_WireProof_line N) (k_wire_EncodeProof_of_msm_Line N hg_scalar_lower hg_scalar_Scalar_Least) (k_wire_DecodeProof_of_msm_Line N hg_scalar_lower hg_scalar_Scalar_Least) (k_veillaw10_alike N hg_scalar_lower hg_scalar_Scalar_Least)

end Go.Vx
