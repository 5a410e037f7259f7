import Derived.Test.YtmoiobmpeohgnaaDoorFp
import Derived.Test.YtmoiobmpeohgnaaDoorProg
set_option autoImplicit false
set_option linter.unusedVariables false
set_option linter.unusedSimpArgs false
namespace Go.Vx
open Go Go.Proofs

def ct_bits_Add64 : Ct := fct (.cons (.int .u64) (.cons (.int .u64) (.one (.int .u64)))) (.tup (.cons (.int .u64) (.one (.int .u64)))) fun x => bits_Add64 x.1 x.2.1 x.2.2

theorem k_bits_Add64 {w0 : World} : SoundAt Tryd.prog w0 85 ct_bits_Add64 :=
  sound_add64 Tryd.func85 (by kernel_rfl) (by kernel_rfl) (by kernel_rfl) (by kernel_rfl)

abbrev A_field_Elem_light : Ag (List Int) := (.one (.ints .u64 5))
abbrev B_field_Elem_light : Pt (List Int) := (.ints .u64 5)
def ct_field_Elem_light : Ct := tct A_field_Elem_light B_field_Elem_light fun x => field_Elem_light x
def cs_field_Elem_light : List (FuncId × Ct) := []
def gs_field_Elem_light : List Gv := []
noncomputable def ls_field_Elem_light : List (Nat × Lf) := []
theorem r_field_Elem_light : RunIs Tryd.prog (cs_field_Elem_light) gs_field_Elem_light 0 (ls_field_Elem_light) Tryd.f64 A_field_Elem_light B_field_Elem_light (fun x => some (field_Elem_light x)) := by
  intro x; kernel_rfl
theorem s_field_Elem_light {w0 : World}  (hcs : ∀ x ∈ cs_field_Elem_light, SoundAt Tryd.prog w0 x.1 x.2) : SoundAt Tryd.prog w0 64 ct_field_Elem_light := by
  exact sound_tct (fn_printed hcs (glob_nil _ _) Tryd.func64 (by kernel_rfl) (by kernel_rfl) (S := 0) (fun w _ => loopsOK_nil _) (fun _ => rfl) (r_field_Elem_light)) fun _ _ => rfl
theorem k_field_Elem_light {w0 : World}  : SoundAt Tryd.prog w0 64 ct_field_Elem_light :=
  s_field_Elem_light cs_nil

abbrev A_field_Elem_Least : Ag (List Int) := (.one (.ints .u64 5))
abbrev B_field_Elem_Least : Pt (List Int) := (.ints .u64 5)
def ct_field_Elem_Least : Ct := tct A_field_Elem_Least B_field_Elem_Least fun x => field_Elem_Least x
def cs_field_Elem_Least : List (FuncId × Ct) := [(64, ct_field_Elem_light)]
def gs_field_Elem_Least : List Gv := []
noncomputable def ls_field_Elem_Least : List (Nat × Lf) := []
theorem r_field_Elem_Least : RunIs Tryd.prog (cs_field_Elem_Least) gs_field_Elem_Least 0 (ls_field_Elem_Least) Tryd.f28 A_field_Elem_Least B_field_Elem_Least (fun x => some (field_Elem_Least x)) := by
  intro x; kernel_rfl
theorem s_field_Elem_Least {w0 : World}  (hcs : ∀ x ∈ cs_field_Elem_Least, SoundAt Tryd.prog w0 x.1 x.2) : SoundAt Tryd.prog w0 28 ct_field_Elem_Least := by
  exact sound_tct (fn_printed hcs (glob_nil _ _) Tryd.func28 (by kernel_rfl) (by kernel_rfl) (S := 0) (fun w _ => loopsOK_nil _) (fun _ => rfl) (r_field_Elem_Least)) fun _ _ => rfl
theorem k_field_Elem_Least {w0 : World}  : SoundAt Tryd.prog w0 28 ct_field_Elem_Least :=
  s_field_Elem_Least (cs_cons (k_field_Elem_light) cs_nil)

abbrev A_field_Elem_slim : Ag (List Int) := (.one (.ints .u64 5))
abbrev B_field_Elem_slim : Pt (Bool) := .bool
def ct_field_Elem_slim : Ct := tct A_field_Elem_slim B_field_Elem_slim fun x => field_Elem_slim x
def cs_field_Elem_slim : List (FuncId × Ct) := []
def gs_field_Elem_slim : List Gv := []
noncomputable def ls_field_Elem_slim : List (Nat × Lf) := []
theorem r_field_Elem_slim : RunIs Tryd.prog (cs_field_Elem_slim) gs_field_Elem_slim 0 (ls_field_Elem_slim) Tryd.f65 A_field_Elem_slim B_field_Elem_slim (fun x => some (field_Elem_slim x)) := by
  intro x; kernel_rfl
theorem s_field_Elem_slim {w0 : World}  (hcs : ∀ x ∈ cs_field_Elem_slim, SoundAt Tryd.prog w0 x.1 x.2) : SoundAt Tryd.prog w0 65 ct_field_Elem_slim := by
  exact sound_tct (fn_printed hcs (glob_nil _ _) Tryd.func65 (by kernel_rfl) (by kernel_rfl) (S := 0) (fun w _ => loopsOK_nil _) (fun _ => rfl) (r_field_Elem_slim)) fun _ _ => rfl
theorem k_field_Elem_slim {w0 : World}  : SoundAt Tryd.prog w0 65 ct_field_Elem_slim :=
  s_field_Elem_slim cs_nil

abbrev A_field_last : Ag ((Int × Int × Int × Int × Int)) := (.cons (.int .u64) (.cons (.int .u64) (.cons (.int .u64) (.cons (.int .u64) (.one (.int .u64))))))
abbrev B_field_last : Pt (List Int) := (.ints .u64 5)
def ct_field_last : Ct := tct A_field_last B_field_last fun x => field_last x.1 x.2.1 x.2.2.1 x.2.2.2.1 x.2.2.2.2
def cs_field_last : List (FuncId × Ct) := []
def gs_field_last : List Gv := []
noncomputable def ls_field_last : List (Nat × Lf) := []
theorem r_field_last : RunIs Tryd.prog (cs_field_last) gs_field_last 0 (ls_field_last) Tryd.f86 A_field_last B_field_last (fun x => some (field_last x.1 x.2.1 x.2.2.1 x.2.2.2.1 x.2.2.2.2)) := by
  intro x; kernel_rfl
theorem s_field_last {w0 : World}  (hcs : ∀ x ∈ cs_field_last, SoundAt Tryd.prog w0 x.1 x.2) : SoundAt Tryd.prog w0 86 ct_field_last := by
  exact sound_tct (fn_printed hcs (glob_nil _ _) Tryd.func86 (by kernel_rfl) (by kernel_rfl) (S := 0) (fun w _ => loopsOK_nil _) (fun _ => rfl) (r_field_last)) fun _ _ => rfl
theorem k_field_last {w0 : World}  : SoundAt Tryd.prog w0 86 ct_field_last :=
  s_field_last cs_nil

abbrev A_field_closed : Ag ((Int × Int × Int × Int × Int)) := (.cons (.int .u64) (.cons (.int .u64) (.cons (.int .u64) (.cons (.int .u64) (.one (.int .u64))))))
abbrev B_field_closed : Pt (List Int) := (.ints .u64 5)
def ct_field_closed : Ct := tct A_field_closed B_field_closed fun x => field_closed x.1 x.2.1 x.2.2.1 x.2.2.2.1 x.2.2.2.2
def cs_field_closed : List (FuncId × Ct) := [(86, ct_field_last)]
def gs_field_closed : List Gv := []
noncomputable def ls_field_closed : List (Nat × Lf) := []
theorem r_field_closed : RunIs Tryd.prog (cs_field_closed) gs_field_closed 0 (ls_field_closed) Tryd.f68 A_field_closed B_field_closed (fun x => field_closed_o x.1 x.2.1 x.2.2.1 x.2.2.2.1 x.2.2.2.2) := by
  intro x; kernel_rfl
theorem s_field_closed {w0 : World}  (hcs : ∀ x ∈ cs_field_closed, SoundAt Tryd.prog w0 x.1 x.2) : SoundAt Tryd.prog w0 68 ct_field_closed := by
  exact sound_tct (fn_printed hcs (glob_nil _ _) Tryd.func68 (by kernel_rfl) (by kernel_rfl) (S := 0) (fun w _ => loopsOK_nil _) (fun _ => rfl) (r_field_closed)) fun _ _ => field_closed_tot _ _ _ _ _
theorem k_field_closed {w0 : World}  : SoundAt Tryd.prog w0 68 ct_field_closed :=
  s_field_closed (cs_cons (k_field_last) cs_nil)

abbrev A_field_Elem_Add : Ag ((List Int × List Int)) := (.cons (.ints .u64 5) (.one (.ints .u64 5)))
abbrev B_field_Elem_Add : Pt (List Int) := (.ints .u64 5)
def ct_field_Elem_Add : Ct := tct A_field_Elem_Add B_field_Elem_Add fun x => field_Elem_Add x.1 x.2
def cs_field_Elem_Add : List (FuncId × Ct) := [(28, ct_field_Elem_Least), (65, ct_field_Elem_slim), (68, ct_field_closed)]
def gs_field_Elem_Add : List Gv := []
noncomputable def ls_field_Elem_Add : List (Nat × Lf) := []
theorem r_field_Elem_Add : RunIs Tryd.prog (cs_field_Elem_Add) gs_field_Elem_Add 0 (ls_field_Elem_Add) Tryd.f31 A_field_Elem_Add B_field_Elem_Add (fun x => field_Elem_Add_o x.1 x.2) := by
  intro x; kernel_rfl
theorem s_field_Elem_Add {w0 : World}  (hcs : ∀ x ∈ cs_field_Elem_Add, SoundAt Tryd.prog w0 x.1 x.2) : SoundAt Tryd.prog w0 31 ct_field_Elem_Add := by
  exact sound_tct (fn_printed hcs (glob_nil _ _) Tryd.func31 (by kernel_rfl) (by kernel_rfl) (S := 0) (fun w _ => loopsOK_nil _) (fun _ => rfl) (r_field_Elem_Add)) fun _ _ => field_Elem_Add_tot _ _
theorem k_field_Elem_Add {w0 : World}  : SoundAt Tryd.prog w0 31 ct_field_Elem_Add :=
  s_field_Elem_Add (cs_cons (k_field_Elem_Least) (cs_cons (k_field_Elem_slim) (cs_cons (k_field_closed) cs_nil)))

abbrev A_field_Elem_Sub : Ag ((List Int × List Int)) := (.cons (.ints .u64 5) (.one (.ints .u64 5)))
abbrev B_field_Elem_Sub : Pt (List Int) := (.ints .u64 5)
def ct_field_Elem_Sub : Ct := tct A_field_Elem_Sub B_field_Elem_Sub fun x => field_Elem_Sub x.1 x.2
def cs_field_Elem_Sub : List (FuncId × Ct) := [(28, ct_field_Elem_Least), (65, ct_field_Elem_slim), (68, ct_field_closed)]
def gs_field_Elem_Sub : List Gv := []
noncomputable def ls_field_Elem_Sub : List (Nat × Lf) := []
theorem r_field_Elem_Sub : RunIs Tryd.prog (cs_field_Elem_Sub) gs_field_Elem_Sub 0 (ls_field_Elem_Sub) Tryd.f30 A_field_Elem_Sub B_field_Elem_Sub (fun x => field_Elem_Sub_o x.1 x.2) := by
  intro x; kernel_rfl
theorem s_field_Elem_Sub {w0 : World}  (hcs : ∀ x ∈ cs_field_Elem_Sub, SoundAt Tryd.prog w0 x.1 x.2) : SoundAt Tryd.prog w0 30 ct_field_Elem_Sub := by
  exact sound_tct (fn_printed hcs (glob_nil _ _) Tryd.func30 (by kernel_rfl) (by kernel_rfl) (S := 0) (fun w _ => loopsOK_nil _) (fun _ => rfl) (r_field_Elem_Sub)) fun _ _ => field_Elem_Sub_tot _ _
theorem k_field_Elem_Sub {w0 : World}  : SoundAt Tryd.prog w0 30 ct_field_Elem_Sub :=
  s_field_Elem_Sub (cs_cons (k_field_Elem_Least) (cs_cons (k_field_Elem_slim) (cs_cons (k_field_closed) cs_nil)))

abbrev A_field_Elem_Neg : Ag (List Int) := (.one (.ints .u64 5))
abbrev B_field_Elem_Neg : Pt (List Int) := (.ints .u64 5)
def ct_field_Elem_Neg : Ct := tct A_field_Elem_Neg B_field_Elem_Neg fun x => field_Elem_Neg x
def cs_field_Elem_Neg : List (FuncId × Ct) := [(30, ct_field_Elem_Sub)]
def gs_field_Elem_Neg : List Gv := []
noncomputable def ls_field_Elem_Neg : List (Nat × Lf) := []
theorem r_field_Elem_Neg : RunIs Tryd.prog (cs_field_Elem_Neg) gs_field_Elem_Neg 0 (ls_field_Elem_Neg) Tryd.f41 A_field_Elem_Neg B_field_Elem_Neg (fun x => some (field_Elem_Neg x)) := by
  intro x; kernel_rfl
theorem s_field_Elem_Neg {w0 : World}  (hcs : ∀ x ∈ cs_field_Elem_Neg, SoundAt Tryd.prog w0 x.1 x.2) : SoundAt Tryd.prog w0 41 ct_field_Elem_Neg := by
  exact sound_tct (fn_printed hcs (glob_nil _ _) Tryd.func41 (by kernel_rfl) (by kernel_rfl) (S := 0) (fun w _ => loopsOK_nil _) (fun _ => rfl) (r_field_Elem_Neg)) fun _ _ => rfl
theorem k_field_Elem_Neg {w0 : World}  : SoundAt Tryd.prog w0 41 ct_field_Elem_Neg :=
  s_field_Elem_Neg (cs_cons (k_field_Elem_Sub) cs_nil)

abbrev A_bits_Mul64 : Ag ((Int × Int)) := (.cons (.int .u64) (.one (.int .u64)))
abbrev B_bits_Mul64 : Pt ((Int × Int)) := (.tup (.cons (.int .u64) (.one (.int .u64))))
def ct_bits_Mul64 : Ct := tct A_bits_Mul64 B_bits_Mul64 fun x => bits_Mul64 x.1 x.2
def cs_bits_Mul64 : List (FuncId × Ct) := []
def gs_bits_Mul64 : List Gv := []
noncomputable def ls_bits_Mul64 : List (Nat × Lf) := []
theorem r_bits_Mul64 : RunIs Tryd.prog (cs_bits_Mul64) gs_bits_Mul64 0 (ls_bits_Mul64) Tryd.f84 A_bits_Mul64 B_bits_Mul64 (fun x => some (bits_Mul64 x.1 x.2)) := by
  intro x; kernel_rfl
theorem s_bits_Mul64 {w0 : World}  (hcs : ∀ x ∈ cs_bits_Mul64, SoundAt Tryd.prog w0 x.1 x.2) : SoundAt Tryd.prog w0 84 ct_bits_Mul64 := by
  exact sound_tct (fn_printed hcs (glob_nil _ _) Tryd.func84 (by kernel_rfl) (by kernel_rfl) (S := 0) (fun w _ => loopsOK_nil _) (fun _ => rfl) (r_bits_Mul64)) fun _ _ => rfl
theorem k_bits_Mul64 {w0 : World}  : SoundAt Tryd.prog w0 84 ct_bits_Mul64 :=
  s_bits_Mul64 cs_nil

abbrev A_field_double_plus : Ag (((Int × Int) × Int × Int)) := (.cons (.agg (.cons (.int .u64) (.one (.int .u64)))) (.cons (.int .u64) (.one (.int .u64))))
abbrev B_field_double_plus : Pt ((Int × Int)) := (.agg (.cons (.int .u64) (.one (.int .u64))))
def ct_field_double_plus : Ct := fct A_field_double_plus B_field_double_plus fun x => field_double_plus x.1 x.2.1 x.2.2
def cs_field_double_plus : List (FuncId × Ct) := [(84, ct_bits_Mul64), (85, ct_bits_Add64)]
def gs_field_double_plus : List Gv := []
noncomputable def ls_field_double_plus : List (Nat × Lf) := []
theorem r_field_double_plus : RunIs Tryd.prog (cs_field_double_plus) gs_field_double_plus 0 (ls_field_double_plus) Tryd.f67 A_field_double_plus B_field_double_plus (fun x => field_double_plus x.1 x.2.1 x.2.2) := by
  intro x; kernel_rfl
theorem s_field_double_plus {w0 : World}  (hcs : ∀ x ∈ cs_field_double_plus, SoundAt Tryd.prog w0 x.1 x.2) : SoundAt Tryd.prog w0 67 ct_field_double_plus := by
  exact fn_printed hcs (glob_nil _ _) Tryd.func67 (by kernel_rfl) (by kernel_rfl) (S := 0) (fun w _ => loopsOK_nil _) (fun _ => rfl) (r_field_double_plus)
theorem k_field_double_plus {w0 : World}  : SoundAt Tryd.prog w0 67 ct_field_double_plus :=
  s_field_double_plus (cs_cons (k_bits_Mul64) (cs_cons (k_bits_Add64) cs_nil))

abbrev A_field_double_over : Ag ((Int × Int)) := (.one (.agg (.cons (.int .u64) (.one (.int .u64)))))
abbrev B_field_double_over : Pt (Int) := (.int .u64)
def ct_field_double_over : Ct := tct A_field_double_over B_field_double_over fun x => field_double_over x
def cs_field_double_over : List (FuncId × Ct) := []
def gs_field_double_over : List Gv := []
noncomputable def ls_field_double_over : List (Nat × Lf) := []
theorem r_field_double_over : RunIs Tryd.prog (cs_field_double_over) gs_field_double_over 0 (ls_field_double_over) Tryd.f83 A_field_double_over B_field_double_over (fun x => some (field_double_over x)) := by
  intro x; kernel_rfl
theorem s_field_double_over {w0 : World}  (hcs : ∀ x ∈ cs_field_double_over, SoundAt Tryd.prog w0 x.1 x.2) : SoundAt Tryd.prog w0 83 ct_field_double_over := by
  exact sound_tct (fn_printed hcs (glob_nil _ _) Tryd.func83 (by kernel_rfl) (by kernel_rfl) (S := 0) (fun w _ => loopsOK_nil _) (fun _ => rfl) (r_field_double_over)) fun _ _ => rfl
theorem k_field_double_over {w0 : World}  : SoundAt Tryd.prog w0 83 ct_field_double_over :=
  s_field_double_over cs_nil

abbrev A_field_carried : Ag (((Int × Int) × (Int × Int) × (Int × Int) × (Int × Int) × (Int × Int))) := (.cons (.agg (.cons (.int .u64) (.one (.int .u64)))) (.cons (.agg (.cons (.int .u64) (.one (.int .u64)))) (.cons (.agg (.cons (.int .u64) (.one (.int .u64)))) (.cons (.agg (.cons (.int .u64) (.one (.int .u64)))) (.one (.agg (.cons (.int .u64) (.one (.int .u64)))))))))
abbrev B_field_carried : Pt (List Int) := (.ints .u64 5)
def ct_field_carried : Ct := fct A_field_carried B_field_carried fun x => field_carried x.1 x.2.1 x.2.2.1 x.2.2.2.1 x.2.2.2.2
def cs_field_carried : List (FuncId × Ct) := [(67, ct_field_double_plus), (68, ct_field_closed), (83, ct_field_double_over)]
def gs_field_carried : List Gv := []
noncomputable def ls_field_carried : List (Nat × Lf) := []
theorem r_field_carried : RunIs Tryd.prog (cs_field_carried) gs_field_carried 0 (ls_field_carried) Tryd.f66 A_field_carried B_field_carried (fun x => field_carried x.1 x.2.1 x.2.2.1 x.2.2.2.1 x.2.2.2.2) := by
  intro x; kernel_rfl
theorem s_field_carried {w0 : World}  (hcs : ∀ x ∈ cs_field_carried, SoundAt Tryd.prog w0 x.1 x.2) : SoundAt Tryd.prog w0 66 ct_field_carried := by
  exact fn_printed hcs (glob_nil _ _) Tryd.func66 (by kernel_rfl) (by kernel_rfl) (S := 0) (fun w _ => loopsOK_nil _) (fun _ => rfl) (r_field_carried)
theorem k_field_carried {w0 : World}  : SoundAt Tryd.prog w0 66 ct_field_carried :=
  s_field_carried (cs_cons (k_field_double_plus) (cs_cons (k_field_closed) (cs_cons (k_field_double_over) cs_nil)))

abbrev A_field_Elem_Mul : Ag ((List Int × List Int)) := (.cons (.ints .u64 5) (.one (.ints .u64 5)))
abbrev B_field_Elem_Mul : Pt (List Int) := (.ints .u64 5)
def ct_field_Elem_Mul : Ct := fct A_field_Elem_Mul B_field_Elem_Mul fun x => field_Elem_Mul x.1 x.2
def cs_field_Elem_Mul : List (FuncId × Ct) := [(28, ct_field_Elem_Least), (65, ct_field_Elem_slim), (66, ct_field_carried), (67, ct_field_double_plus)]
def gs_field_Elem_Mul : List Gv := []
noncomputable def ls_field_Elem_Mul : List (Nat × Lf) := []
theorem r_field_Elem_Mul : RunIs Tryd.prog (cs_field_Elem_Mul) gs_field_Elem_Mul 0 (ls_field_Elem_Mul) Tryd.f33 A_field_Elem_Mul B_field_Elem_Mul (fun x => field_Elem_Mul x.1 x.2) := by
  intro x; kernel_rfl
theorem s_field_Elem_Mul {w0 : World}  (hcs : ∀ x ∈ cs_field_Elem_Mul, SoundAt Tryd.prog w0 x.1 x.2) : SoundAt Tryd.prog w0 33 ct_field_Elem_Mul := by
  exact fn_printed hcs (glob_nil _ _) Tryd.func33 (by kernel_rfl) (by kernel_rfl) (S := 0) (fun w _ => loopsOK_nil _) (fun _ => rfl) (r_field_Elem_Mul)
theorem k_field_Elem_Mul {w0 : World}  : SoundAt Tryd.prog w0 33 ct_field_Elem_Mul :=
  s_field_Elem_Mul (cs_cons (k_field_Elem_Least) (cs_cons (k_field_Elem_slim) (cs_cons (k_field_carried) (cs_cons (k_field_double_plus) cs_nil))))

abbrev A_field_Elem_Square : Ag (List Int) := (.one (.ints .u64 5))
abbrev B_field_Elem_Square : Pt (List Int) := (.ints .u64 5)
def ct_field_Elem_Square : Ct := fct A_field_Elem_Square B_field_Elem_Square fun x => field_Elem_Square x
def cs_field_Elem_Square : List (FuncId × Ct) := [(28, ct_field_Elem_Least), (65, ct_field_Elem_slim), (66, ct_field_carried), (67, ct_field_double_plus)]
def gs_field_Elem_Square : List Gv := []
noncomputable def ls_field_Elem_Square : List (Nat × Lf) := []
theorem r_field_Elem_Square : RunIs Tryd.prog (cs_field_Elem_Square) gs_field_Elem_Square 0 (ls_field_Elem_Square) Tryd.f29 A_field_Elem_Square B_field_Elem_Square (fun x => field_Elem_Square x) := by
  intro x; kernel_rfl
theorem s_field_Elem_Square {w0 : World}  (hcs : ∀ x ∈ cs_field_Elem_Square, SoundAt Tryd.prog w0 x.1 x.2) : SoundAt Tryd.prog w0 29 ct_field_Elem_Square := by
  exact fn_printed hcs (glob_nil _ _) Tryd.func29 (by kernel_rfl) (by kernel_rfl) (S := 0) (fun w _ => loopsOK_nil _) (fun _ => rfl) (r_field_Elem_Square)
theorem k_field_Elem_Square {w0 : World}  : SoundAt Tryd.prog w0 29 ct_field_Elem_Square :=
  s_field_Elem_Square (cs_cons (k_field_Elem_Least) (cs_cons (k_field_Elem_slim) (cs_cons (k_field_carried) (cs_cons (k_field_double_plus) cs_nil))))

abbrev A_field_load : Ag (List Int) := (.one (.ints .u8 32))
abbrev B_field_load : Pt (List Int) := (.ints .u64 5)
def ct_field_load : Ct := tct A_field_load B_field_load fun x => field_load x
def cs_field_load : List (FuncId × Ct) := []
def gs_field_load : List Gv := []
noncomputable def ls_field_load : List (Nat × Lf) := []
theorem r_field_load : RunIs Tryd.prog (cs_field_load) gs_field_load 0 (ls_field_load) Tryd.f71 A_field_load B_field_load (fun x => some (field_load x)) := by
  intro x; kernel_rfl
theorem s_field_load {w0 : World}  (hcs : ∀ x ∈ cs_field_load, SoundAt Tryd.prog w0 x.1 x.2) : SoundAt Tryd.prog w0 71 ct_field_load := by
  exact sound_tct (fn_printed hcs (glob_nil _ _) Tryd.func71 (by kernel_rfl) (by kernel_rfl) (S := 0) (fun w _ => loopsOK_nil _) (fun _ => rfl) (r_field_load)) fun _ _ => rfl
theorem k_field_load {w0 : World}  : SoundAt Tryd.prog w0 71 ct_field_load :=
  s_field_load cs_nil

abbrev A_field_Decode : Ag (List Int) := (.one (.ints .u8 32))
abbrev B_field_Decode : Pt ((List Int × Int)) := (.tup (.cons (.ints .u64 5) (.one (.int .i64))))
def ct_field_Decode : Ct := tct A_field_Decode B_field_Decode fun x => field_Decode x
def cs_field_Decode : List (FuncId × Ct) := [(28, ct_field_Elem_Least), (71, ct_field_load)]
def gs_field_Decode : List Gv := []
noncomputable def ls_field_Decode : List (Nat × Lf) := []
theorem r_field_Decode : RunIs Tryd.prog (cs_field_Decode) gs_field_Decode 0 (ls_field_Decode) Tryd.f38 A_field_Decode B_field_Decode (fun x => field_Decode_o x) := by
  intro x; kernel_rfl
theorem s_field_Decode {w0 : World}  (hcs : ∀ x ∈ cs_field_Decode, SoundAt Tryd.prog w0 x.1 x.2) : SoundAt Tryd.prog w0 38 ct_field_Decode := by
  exact sound_tct (fn_printed hcs (glob_nil _ _) Tryd.func38 (by kernel_rfl) (by kernel_rfl) (S := 0) (fun w _ => loopsOK_nil _) (fun _ => rfl) (r_field_Decode)) fun _ _ => field_Decode_tot _
theorem k_field_Decode {w0 : World}  : SoundAt Tryd.prog w0 38 ct_field_Decode :=
  s_field_Decode (cs_cons (k_field_Elem_Least) (cs_cons (k_field_load) cs_nil))

abbrev A_field_Elem_squares : Ag ((List Int × Int)) := (.cons (.ints .u64 5) (.one (.int .i64)))
abbrev B_field_Elem_squares : Pt (List Int) := (.ints .u64 5)
def ct_field_Elem_squares (N : Nat) : Ct := fct A_field_Elem_squares B_field_Elem_squares fun x => field_Elem_squares N x.1 x.2
def cs_field_Elem_squares (N : Nat) : List (FuncId × Ct) := [(29, ct_field_Elem_Square)]
def gs_field_Elem_squares : List Gv := []
def field_Elem_squares_l0_H : Fm ((Unit × Unit × Int × Int)) ((List Int × Unit)) := ⟨(.cons 2 (.lit (.ptr 0 [] 35)) (.cons 4 (.lit (.ptr 1 [] 35)) (.cons 5 (.int .i64) (.one 6 (.int .i64))))), (.cons 0 (.ints .u64 5) (.one 1 (.lit (.ints .u64 5 [0, 0, 0, 0, 0]))))⟩
def field_Elem_squares_l0_O : Fm ((Unit × Unit)) ((List Int × Unit)) := ⟨(.cons 2 (.lit (.ptr 0 [] 35)) (.one 4 (.lit (.ptr 1 [] 35)))), (.cons 0 (.ints .u64 5) (.one 1 (.lit (.ints .u64 5 [0, 0, 0, 0, 0]))))⟩
def field_Elem_squares_l0_T : Fm (Unit) (Unit) := ⟨.nil, .nil⟩
noncomputable def ls_field_Elem_squares (N : Nat) : List (Nat × Lf) := [(0, loopCt field_Elem_squares_l0_H field_Elem_squares_l0_O field_Elem_squares_l0_T 4 (field_Elem_squares_l0 N) N)]
theorem field_Elem_squares_l0_step (N : Nat) : StepIs Tryd.prog (cxOf Tryd.f80 (cs_field_Elem_squares N) gs_field_Elem_squares 0) (ls_field_Elem_squares N) Tryd.f80 0 4 field_Elem_squares_l0_H field_Elem_squares_l0_O field_Elem_squares_l0_T (field_Elem_squares_l0 N) := by
  intro v; kernel_rfl
theorem r_field_Elem_squares (N : Nat) : RunIs Tryd.prog (cs_field_Elem_squares N) gs_field_Elem_squares 0 (ls_field_Elem_squares N) Tryd.f80 A_field_Elem_squares B_field_Elem_squares (fun x => field_Elem_squares N x.1 x.2) := by
  intro x; kernel_rfl
theorem s_field_Elem_squares {w0 : World} (N : Nat)  (hcs : ∀ x ∈ cs_field_Elem_squares N, SoundAt Tryd.prog w0 x.1 x.2) : SoundAt Tryd.prog w0 80 (ct_field_Elem_squares N) := by
  have L0 : ∀ w, RowKit.Below w0.heap.size w0 w → LoopOK Tryd.prog (cxOf Tryd.f80 (cs_field_Elem_squares N) gs_field_Elem_squares 0) w 0 (.loop (loopBody Tryd.f80 0)) (loopCt field_Elem_squares_l0_H field_Elem_squares_l0_O field_Elem_squares_l0_T 4 (field_Elem_squares_l0 N) N) :=
    loop_printed hcs (ls := ls_field_Elem_squares N) (n := 100) (by kernel_rfl) (field_Elem_squares_l0_step N) N fun w hw => loopsOK_list (lp_no (by kernel_rfl) lp_nil)
  exact fn_printed hcs (glob_nil _ _) Tryd.func80 (by kernel_rfl) (by kernel_rfl) (S := 0) (fun w hw => loopsOK_list (lp_yes (L0 w hw) (by kernel_rfl) lp_nil)) (fun _ => rfl) (r_field_Elem_squares N)
theorem k_field_Elem_squares {w0 : World} (N : Nat)  : SoundAt Tryd.prog w0 80 (ct_field_Elem_squares N) :=
  s_field_Elem_squares N (cs_cons (k_field_Elem_Square) cs_nil)

abbrev A_field_Elem_ones : Ag (List Int) := (.one (.ints .u64 5))
abbrev B_field_Elem_ones : Pt ((List Int × List Int)) := (.tup (.cons (.ints .u64 5) (.one (.ints .u64 5))))
def ct_field_Elem_ones (N : Nat) : Ct := fct A_field_Elem_ones B_field_Elem_ones fun x => field_Elem_ones N x
def cs_field_Elem_ones (N : Nat) : List (FuncId × Ct) := [(29, ct_field_Elem_Square), (33, ct_field_Elem_Mul), (80, (ct_field_Elem_squares N))]
def gs_field_Elem_ones : List Gv := []
noncomputable def ls_field_Elem_ones (N : Nat) : List (Nat × Lf) := []
theorem r_field_Elem_ones (N : Nat) : RunIs Tryd.prog (cs_field_Elem_ones N) gs_field_Elem_ones 0 (ls_field_Elem_ones N) Tryd.f79 A_field_Elem_ones B_field_Elem_ones (fun x => field_Elem_ones N x) := by
  intro x; kernel_rfl
theorem s_field_Elem_ones {w0 : World} (N : Nat)  (hcs : ∀ x ∈ cs_field_Elem_ones N, SoundAt Tryd.prog w0 x.1 x.2) : SoundAt Tryd.prog w0 79 (ct_field_Elem_ones N) := by
  exact fn_printed hcs (glob_nil _ _) Tryd.func79 (by kernel_rfl) (by kernel_rfl) (S := 0) (fun w _ => loopsOK_nil _) (fun _ => rfl) (r_field_Elem_ones N)
theorem k_field_Elem_ones {w0 : World} (N : Nat)  : SoundAt Tryd.prog w0 79 (ct_field_Elem_ones N) :=
  s_field_Elem_ones N (cs_cons (k_field_Elem_Square) (cs_cons (k_field_Elem_Mul) (cs_cons (k_field_Elem_squares N) cs_nil)))

abbrev A_field_Elem_Invert : Ag (List Int) := (.one (.ints .u64 5))
abbrev B_field_Elem_Invert : Pt (List Int) := (.ints .u64 5)
def ct_field_Elem_Invert (N : Nat) : Ct := fct A_field_Elem_Invert B_field_Elem_Invert fun x => field_Elem_Invert N x
def cs_field_Elem_Invert (N : Nat) : List (FuncId × Ct) := [(33, ct_field_Elem_Mul), (79, (ct_field_Elem_ones N)), (80, (ct_field_Elem_squares N))]
def gs_field_Elem_Invert : List Gv := []
noncomputable def ls_field_Elem_Invert (N : Nat) : List (Nat × Lf) := []
theorem r_field_Elem_Invert (N : Nat) : RunIs Tryd.prog (cs_field_Elem_Invert N) gs_field_Elem_Invert 0 (ls_field_Elem_Invert N) Tryd.f58 A_field_Elem_Invert B_field_Elem_Invert (fun x => field_Elem_Invert N x) := by
  intro x; kernel_rfl
theorem s_field_Elem_Invert {w0 : World} (N : Nat)  (hcs : ∀ x ∈ cs_field_Elem_Invert N, SoundAt Tryd.prog w0 x.1 x.2) : SoundAt Tryd.prog w0 58 (ct_field_Elem_Invert N) := by
  exact fn_printed hcs (glob_nil _ _) Tryd.func58 (by kernel_rfl) (by kernel_rfl) (S := 0) (fun w _ => loopsOK_nil _) (fun _ => rfl) (r_field_Elem_Invert N)
theorem k_field_Elem_Invert {w0 : World} (N : Nat)  : SoundAt Tryd.prog w0 58 (ct_field_Elem_Invert N) :=
  s_field_Elem_Invert N (cs_cons (k_field_Elem_Mul) (cs_cons (k_field_Elem_ones N) (cs_cons (k_field_Elem_squares N) cs_nil)))

abbrev A_field_Elem_root : Ag (List Int) := (.one (.ints .u64 5))
abbrev B_field_Elem_root : Pt (List Int) := (.ints .u64 5)
def ct_field_Elem_root (N : Nat) : Ct := fct A_field_Elem_root B_field_Elem_root fun x => field_Elem_root N x
def cs_field_Elem_root (N : Nat) : List (FuncId × Ct) := [(33, ct_field_Elem_Mul), (79, (ct_field_Elem_ones N)), (80, (ct_field_Elem_squares N))]
def gs_field_Elem_root : List Gv := []
noncomputable def ls_field_Elem_root (N : Nat) : List (Nat × Lf) := []
theorem r_field_Elem_root (N : Nat) : RunIs Tryd.prog (cs_field_Elem_root N) gs_field_Elem_root 0 (ls_field_Elem_root N) Tryd.f87 A_field_Elem_root B_field_Elem_root (fun x => field_Elem_root N x) := by
  intro x; kernel_rfl
theorem s_field_Elem_root {w0 : World} (N : Nat)  (hcs : ∀ x ∈ cs_field_Elem_root N, SoundAt Tryd.prog w0 x.1 x.2) : SoundAt Tryd.prog w0 87 (ct_field_Elem_root N) := by
  exact fn_printed hcs (glob_nil _ _) Tryd.func87 (by kernel_rfl) (by kernel_rfl) (S := 0) (fun w _ => loopsOK_nil _) (fun _ => rfl) (r_field_Elem_root N)
theorem k_field_Elem_root {w0 : World} (N : Nat)  : SoundAt Tryd.prog w0 87 (ct_field_Elem_root N) :=
  s_field_Elem_root N (cs_cons (k_field_Elem_Mul) (cs_cons (k_field_Elem_ones N) (cs_cons (k_field_Elem_squares N) cs_nil)))

abbrev A_field_Elem_IsZero : Ag (List Int) := (.one (.ints .u64 5))
abbrev B_field_Elem_IsZero : Pt (Bool) := .bool
def ct_field_Elem_IsZero : Ct := tct A_field_Elem_IsZero B_field_Elem_IsZero fun x => field_Elem_IsZero x
def cs_field_Elem_IsZero : List (FuncId × Ct) := [(28, ct_field_Elem_Least)]
def gs_field_Elem_IsZero : List Gv := []
noncomputable def ls_field_Elem_IsZero : List (Nat × Lf) := []
theorem r_field_Elem_IsZero : RunIs Tryd.prog (cs_field_Elem_IsZero) gs_field_Elem_IsZero 0 (ls_field_Elem_IsZero) Tryd.f40 A_field_Elem_IsZero B_field_Elem_IsZero (fun x => some (field_Elem_IsZero x)) := by
  intro x; kernel_rfl
theorem s_field_Elem_IsZero {w0 : World}  (hcs : ∀ x ∈ cs_field_Elem_IsZero, SoundAt Tryd.prog w0 x.1 x.2) : SoundAt Tryd.prog w0 40 ct_field_Elem_IsZero := by
  exact sound_tct (fn_printed hcs (glob_nil _ _) Tryd.func40 (by kernel_rfl) (by kernel_rfl) (S := 0) (fun w _ => loopsOK_nil _) (fun _ => rfl) (r_field_Elem_IsZero)) fun _ _ => rfl
theorem k_field_Elem_IsZero {w0 : World}  : SoundAt Tryd.prog w0 40 ct_field_Elem_IsZero :=
  s_field_Elem_IsZero (cs_cons (k_field_Elem_Least) cs_nil)

abbrev A_field_Select : Ag ((Int × List Int × List Int)) := (.cons (.int .i64) (.cons (.ints .u64 5) (.one (.ints .u64 5))))
abbrev B_field_Select : Pt (List Int) := (.ints .u64 5)
def ct_field_Select : Ct := tct A_field_Select B_field_Select fun x => field_Select x.1 x.2.1 x.2.2
def cs_field_Select : List (FuncId × Ct) := [(28, ct_field_Elem_Least)]
def gs_field_Select : List Gv := []
noncomputable def ls_field_Select : List (Nat × Lf) := []
theorem r_field_Select : RunIs Tryd.prog (cs_field_Select) gs_field_Select 0 (ls_field_Select) Tryd.f91 A_field_Select B_field_Select (fun x => some (field_Select x.1 x.2.1 x.2.2)) := by
  intro x; kernel_rfl
theorem s_field_Select {w0 : World}  (hcs : ∀ x ∈ cs_field_Select, SoundAt Tryd.prog w0 x.1 x.2) : SoundAt Tryd.prog w0 91 ct_field_Select := by
  exact sound_tct (fn_printed hcs (glob_nil _ _) Tryd.func91 (by kernel_rfl) (by kernel_rfl) (S := 0) (fun w _ => loopsOK_nil _) (fun _ => rfl) (r_field_Select)) fun _ _ => rfl
theorem k_field_Select {w0 : World}  : SoundAt Tryd.prog w0 91 ct_field_Select :=
  s_field_Select (cs_cons (k_field_Elem_Least) cs_nil)

abbrev A_field_Elem_Abs : Ag (List Int) := (.one (.ints .u64 5))
abbrev B_field_Elem_Abs : Pt (List Int) := (.ints .u64 5)
def ct_field_Elem_Abs : Ct := tct A_field_Elem_Abs B_field_Elem_Abs fun x => field_Elem_Abs x
def cs_field_Elem_Abs : List (FuncId × Ct) := [(28, ct_field_Elem_Least), (41, ct_field_Elem_Neg), (91, ct_field_Select)]
def gs_field_Elem_Abs : List Gv := []
noncomputable def ls_field_Elem_Abs : List (Nat × Lf) := []
theorem r_field_Elem_Abs : RunIs Tryd.prog (cs_field_Elem_Abs) gs_field_Elem_Abs 0 (ls_field_Elem_Abs) Tryd.f88 A_field_Elem_Abs B_field_Elem_Abs (fun x => some (field_Elem_Abs x)) := by
  intro x; kernel_rfl
theorem s_field_Elem_Abs {w0 : World}  (hcs : ∀ x ∈ cs_field_Elem_Abs, SoundAt Tryd.prog w0 x.1 x.2) : SoundAt Tryd.prog w0 88 ct_field_Elem_Abs := by
  exact sound_tct (fn_printed hcs (glob_nil _ _) Tryd.func88 (by kernel_rfl) (by kernel_rfl) (S := 0) (fun w _ => loopsOK_nil _) (fun _ => rfl) (r_field_Elem_Abs)) fun _ _ => rfl
theorem k_field_Elem_Abs {w0 : World}  : SoundAt Tryd.prog w0 88 ct_field_Elem_Abs :=
  s_field_Elem_Abs (cs_cons (k_field_Elem_Least) (cs_cons (k_field_Elem_Neg) (cs_cons (k_field_Select) cs_nil)))

abbrev A_field_Const : Ag (Int) := (.one (.int .i64))
abbrev B_field_Const : Pt (List Int) := (.ints .u64 5)
def ct_field_Const : Ct := fct A_field_Const B_field_Const fun x => field_Const x
def cs_field_Const : List (FuncId × Ct) := []
def gs_field_Const : List Gv := [⟨5, 109, (.rows 7 fun i => .ints .u64 5 (field_tab i))⟩]
noncomputable def ls_field_Const : List (Nat × Lf) := []
theorem r_field_Const : RunIs Tryd.prog (cs_field_Const) gs_field_Const 0 (ls_field_Const) Tryd.f32 A_field_Const B_field_Const (fun x => field_Const x) := by
  intro x; kernel_rfl
theorem s_field_Const {w0 : World}  (hcs : ∀ x ∈ cs_field_Const, SoundAt Tryd.prog w0 x.1 x.2) (hg : GlobOK Tryd.prog w0 gs_field_Const) : SoundAt Tryd.prog w0 32 ct_field_Const := by
  exact fn_printed hcs hg Tryd.func32 (by kernel_rfl) (by kernel_rfl) (S := 0) (fun w _ => loopsOK_nil _) (fun _ => rfl) (r_field_Const)
theorem k_field_Const {w0 : World}  (hg_field_Const : GlobOK Tryd.prog w0 gs_field_Const) : SoundAt Tryd.prog w0 32 ct_field_Const :=
  s_field_Const cs_nil hg_field_Const

abbrev A_field_SqrtRatio : Ag ((List Int × List Int)) := (.cons (.ints .u64 5) (.one (.ints .u64 5)))
abbrev B_field_SqrtRatio : Pt ((List Int × Bool)) := (.tup (.cons (.ints .u64 5) (.one .bool)))
def ct_field_SqrtRatio (N : Nat) : Ct := fct A_field_SqrtRatio B_field_SqrtRatio fun x => field_SqrtRatio N x.1 x.2
def cs_field_SqrtRatio (N : Nat) : List (FuncId × Ct) := [(28, ct_field_Elem_Least), (29, ct_field_Elem_Square), (33, ct_field_Elem_Mul), (41, ct_field_Elem_Neg), (87, (ct_field_Elem_root N)), (88, ct_field_Elem_Abs)]
def gs_field_SqrtRatio : List Gv := [⟨5, 109, (.rows 7 fun i => .ints .u64 5 (field_tab i))⟩]
noncomputable def ls_field_SqrtRatio (N : Nat) : List (Nat × Lf) := []
theorem r_field_SqrtRatio (N : Nat) : RunIs Tryd.prog (cs_field_SqrtRatio N) gs_field_SqrtRatio 0 (ls_field_SqrtRatio N) Tryd.f72 A_field_SqrtRatio B_field_SqrtRatio (fun x => field_SqrtRatio N x.1 x.2) := by
  intro x; kernel_rfl
theorem s_field_SqrtRatio {w0 : World} (N : Nat)  (hcs : ∀ x ∈ cs_field_SqrtRatio N, SoundAt Tryd.prog w0 x.1 x.2) (hg : GlobOK Tryd.prog w0 gs_field_SqrtRatio) : SoundAt Tryd.prog w0 72 (ct_field_SqrtRatio N) := by
  exact fn_printed hcs hg Tryd.func72 (by kernel_rfl) (by kernel_rfl) (S := 0) (fun w _ => loopsOK_nil _) (fun _ => rfl) (r_field_SqrtRatio N)
theorem k_field_SqrtRatio {w0 : World} (N : Nat)  (hg_field_SqrtRatio : GlobOK Tryd.prog w0 gs_field_SqrtRatio) : SoundAt Tryd.prog w0 72 (ct_field_SqrtRatio N) :=
  s_field_SqrtRatio N (cs_cons (k_field_Elem_Least) (cs_cons (k_field_Elem_Square) (cs_cons (k_field_Elem_Mul) (cs_cons (k_field_Elem_Neg) (cs_cons (k_field_Elem_root N) (cs_cons (k_field_Elem_Abs) cs_nil)))))) hg_field_SqrtRatio

abbrev A_curve_place_whole : Ag ((List Int × List Int × List Int × List Int)) := (.one (.agg (.cons (.ints .u64 5) (.cons (.ints .u64 5) (.cons (.ints .u64 5) (.one (.ints .u64 5)))))))
abbrev B_curve_place_whole : Pt ((List Int × List Int × List Int × List Int)) := (.agg (.cons (.ints .u64 5) (.cons (.ints .u64 5) (.cons (.ints .u64 5) (.one (.ints .u64 5))))))
def ct_curve_place_whole : Ct := tct A_curve_place_whole B_curve_place_whole fun x => curve_place_whole x
def cs_curve_place_whole : List (FuncId × Ct) := []
def gs_curve_place_whole : List Gv := [⟨3, 35, (.ints .u64 5 [1, 0, 0, 0, 0])⟩]
noncomputable def ls_curve_place_whole : List (Nat × Lf) := []
theorem r_curve_place_whole : RunIs Tryd.prog (cs_curve_place_whole) gs_curve_place_whole 0 (ls_curve_place_whole) Tryd.f57 A_curve_place_whole B_curve_place_whole (fun x => curve_place_whole_o x) := by
  intro x; kernel_rfl
theorem s_curve_place_whole {w0 : World}  (hcs : ∀ x ∈ cs_curve_place_whole, SoundAt Tryd.prog w0 x.1 x.2) (hg : GlobOK Tryd.prog w0 gs_curve_place_whole) : SoundAt Tryd.prog w0 57 ct_curve_place_whole := by
  exact sound_tct (fn_printed hcs hg Tryd.func57 (by kernel_rfl) (by kernel_rfl) (S := 0) (fun w _ => loopsOK_nil _) (fun _ => rfl) (r_curve_place_whole)) fun _ _ => curve_place_whole_tot _
theorem k_curve_place_whole {w0 : World}  (hg_curve_place_whole : GlobOK Tryd.prog w0 gs_curve_place_whole) : SoundAt Tryd.prog w0 57 ct_curve_place_whole :=
  s_curve_place_whole cs_nil hg_curve_place_whole

abbrev A_curve_at : Ag ((List Int × List Int)) := (.cons (.ints .u64 5) (.one (.ints .u64 5)))
abbrev B_curve_at : Pt ((List Int × List Int × List Int × List Int)) := (.agg (.one (.agg (.cons (.ints .u64 5) (.cons (.ints .u64 5) (.cons (.ints .u64 5) (.one (.ints .u64 5))))))))
def ct_curve_at : Ct := fct A_curve_at B_curve_at fun x => curve_at x.1 x.2
def cs_curve_at : List (FuncId × Ct) := [(33, ct_field_Elem_Mul)]
def gs_curve_at : List Gv := [⟨3, 35, (.ints .u64 5 [1, 0, 0, 0, 0])⟩]
noncomputable def ls_curve_at : List (Nat × Lf) := []
theorem r_curve_at : RunIs Tryd.prog (cs_curve_at) gs_curve_at 0 (ls_curve_at) Tryd.f34 A_curve_at B_curve_at (fun x => curve_at x.1 x.2) := by
  intro x; kernel_rfl
theorem s_curve_at {w0 : World}  (hcs : ∀ x ∈ cs_curve_at, SoundAt Tryd.prog w0 x.1 x.2) (hg : GlobOK Tryd.prog w0 gs_curve_at) : SoundAt Tryd.prog w0 34 ct_curve_at := by
  exact fn_printed hcs hg Tryd.func34 (by kernel_rfl) (by kernel_rfl) (S := 0) (fun w _ => loopsOK_nil _) (fun _ => rfl) (r_curve_at)
theorem k_curve_at {w0 : World}  (hg_curve_at : GlobOK Tryd.prog w0 gs_curve_at) : SoundAt Tryd.prog w0 34 ct_curve_at :=
  s_curve_at (cs_cons (k_field_Elem_Mul) cs_nil) hg_curve_at

abbrev A_curve_Point_Affine : Ag ((List Int × List Int × List Int × List Int)) := (.one (.agg (.one (.agg (.cons (.ints .u64 5) (.cons (.ints .u64 5) (.cons (.ints .u64 5) (.one (.ints .u64 5)))))))))
abbrev B_curve_Point_Affine : Pt ((List Int × List Int)) := (.tup (.cons (.ints .u64 5) (.one (.ints .u64 5))))
def ct_curve_Point_Affine (N : Nat) : Ct := fct A_curve_Point_Affine B_curve_Point_Affine fun x => curve_Point_Affine N x
def cs_curve_Point_Affine (N : Nat) : List (FuncId × Ct) := [(33, ct_field_Elem_Mul), (57, ct_curve_place_whole), (58, (ct_field_Elem_Invert N))]
def gs_curve_Point_Affine : List Gv := []
noncomputable def ls_curve_Point_Affine (N : Nat) : List (Nat × Lf) := []
theorem r_curve_Point_Affine (N : Nat) : RunIs Tryd.prog (cs_curve_Point_Affine N) gs_curve_Point_Affine 0 (ls_curve_Point_Affine N) Tryd.f20 A_curve_Point_Affine B_curve_Point_Affine (fun x => curve_Point_Affine N x) := by
  intro x; kernel_rfl
theorem s_curve_Point_Affine {w0 : World} (N : Nat)  (hcs : ∀ x ∈ cs_curve_Point_Affine N, SoundAt Tryd.prog w0 x.1 x.2) : SoundAt Tryd.prog w0 20 (ct_curve_Point_Affine N) := by
  exact fn_printed hcs (glob_nil _ _) Tryd.func20 (by kernel_rfl) (by kernel_rfl) (S := 0) (fun w _ => loopsOK_nil _) (fun _ => rfl) (r_curve_Point_Affine N)
theorem k_curve_Point_Affine {w0 : World} (N : Nat)  (hg_curve_place_whole : GlobOK Tryd.prog w0 gs_curve_place_whole) : SoundAt Tryd.prog w0 20 (ct_curve_Point_Affine N) :=
  s_curve_Point_Affine N (cs_cons (k_field_Elem_Mul) (cs_cons (k_curve_place_whole hg_curve_place_whole) (cs_cons (k_field_Elem_Invert N) cs_nil)))

abbrev A_curve_FromAffine : Ag ((List Int × List Int)) := (.cons (.ints .u64 5) (.one (.ints .u64 5)))
abbrev B_curve_FromAffine : Pt (((List Int × List Int × List Int × List Int) × Int)) := (.tup (.cons (.agg (.one (.agg (.cons (.ints .u64 5) (.cons (.ints .u64 5) (.cons (.ints .u64 5) (.one (.ints .u64 5)))))))) (.one (.int .i64))))
def ct_curve_FromAffine : Ct := fct A_curve_FromAffine B_curve_FromAffine fun x => curve_FromAffine x.1 x.2
def cs_curve_FromAffine : List (FuncId × Ct) := [(28, ct_field_Elem_Least), (29, ct_field_Elem_Square), (30, ct_field_Elem_Sub), (31, ct_field_Elem_Add), (32, ct_field_Const), (33, ct_field_Elem_Mul), (34, ct_curve_at)]
def gs_curve_FromAffine : List Gv := [⟨3, 35, (.ints .u64 5 [1, 0, 0, 0, 0])⟩]
noncomputable def ls_curve_FromAffine : List (Nat × Lf) := []
theorem r_curve_FromAffine : RunIs Tryd.prog (cs_curve_FromAffine) gs_curve_FromAffine 0 (ls_curve_FromAffine) Tryd.f14 A_curve_FromAffine B_curve_FromAffine (fun x => curve_FromAffine x.1 x.2) := by
  intro x; kernel_rfl
theorem s_curve_FromAffine {w0 : World}  (hcs : ∀ x ∈ cs_curve_FromAffine, SoundAt Tryd.prog w0 x.1 x.2) (hg : GlobOK Tryd.prog w0 gs_curve_FromAffine) : SoundAt Tryd.prog w0 14 ct_curve_FromAffine := by
  exact fn_printed hcs hg Tryd.func14 (by kernel_rfl) (by kernel_rfl) (S := 0) (fun w _ => loopsOK_nil _) (fun _ => rfl) (r_curve_FromAffine)
theorem k_curve_FromAffine {w0 : World}  (hg_field_Const : GlobOK Tryd.prog w0 gs_field_Const) (hg_curve_at : GlobOK Tryd.prog w0 gs_curve_at) (hg_curve_FromAffine : GlobOK Tryd.prog w0 gs_curve_FromAffine) : SoundAt Tryd.prog w0 14 ct_curve_FromAffine :=
  s_curve_FromAffine (cs_cons (k_field_Elem_Least) (cs_cons (k_field_Elem_Square) (cs_cons (k_field_Elem_Sub) (cs_cons (k_field_Elem_Add) (cs_cons (k_field_Const hg_field_Const) (cs_cons (k_field_Elem_Mul) (cs_cons (k_curve_at hg_curve_at) cs_nil))))))) hg_curve_FromAffine

abbrev A_curve_Base : Ag (Unit) := .nil
abbrev B_curve_Base : Pt ((List Int × List Int × List Int × List Int)) := (.agg (.one (.agg (.cons (.ints .u64 5) (.cons (.ints .u64 5) (.cons (.ints .u64 5) (.one (.ints .u64 5))))))))
def ct_curve_Base : Ct := tct A_curve_Base B_curve_Base fun x => curve_Base
def cs_curve_Base : List (FuncId × Ct) := []
def gs_curve_Base : List Gv := [⟨0, 44, (.agg [(.agg [(.ints .u64 5 [1738742601995546, 1146398526822698, 2070867633025821, 562264141797630, 587772402128613]), (.ints .u64 5 [1801439850948184, 1351079888211148, 450359962737049, 900719925474099, 1801439850948198]), (.ints .u64 5 [1, 0, 0, 0, 0]), (.ints .u64 5 [1841354044333475, 16398895984059, 755974180946558, 900171276175154, 1821297809914039])])])⟩]
noncomputable def ls_curve_Base : List (Nat × Lf) := []
theorem r_curve_Base : RunIs Tryd.prog (cs_curve_Base) gs_curve_Base 0 (ls_curve_Base) Tryd.f9 A_curve_Base B_curve_Base (fun x => some (curve_Base)) := by
  intro x; kernel_rfl
theorem s_curve_Base {w0 : World}  (hcs : ∀ x ∈ cs_curve_Base, SoundAt Tryd.prog w0 x.1 x.2) (hg : GlobOK Tryd.prog w0 gs_curve_Base) : SoundAt Tryd.prog w0 9 ct_curve_Base := by
  exact sound_tct (fn_printed hcs hg Tryd.func9 (by kernel_rfl) (by kernel_rfl) (S := 0) (fun w _ => loopsOK_nil _) (fun _ => rfl) (r_curve_Base)) fun _ _ => rfl
theorem k_curve_Base {w0 : World}  (hg_curve_Base : GlobOK Tryd.prog w0 gs_curve_Base) : SoundAt Tryd.prog w0 9 ct_curve_Base :=
  s_curve_Base cs_nil hg_curve_Base

abbrev A_curve_Torsion : Ag (Int) := (.one (.int .i64))
abbrev B_curve_Torsion : Pt ((List Int × List Int × List Int × List Int)) := (.agg (.one (.agg (.cons (.ints .u64 5) (.cons (.ints .u64 5) (.cons (.ints .u64 5) (.one (.ints .u64 5))))))))
def ct_curve_Torsion : Ct := fct A_curve_Torsion B_curve_Torsion fun x => curve_Torsion x
def cs_curve_Torsion : List (FuncId × Ct) := []
def gs_curve_Torsion : List Gv := [⟨2, 69, (.agg [(.agg [(.agg [(.ints .u64 5 [0, 0, 0, 0, 0]), (.ints .u64 5 [0, 0, 0, 0, 0]), (.ints .u64 5 [0, 0, 0, 0, 0]), (.ints .u64 5 [0, 0, 0, 0, 0])])]), (.agg [(.agg [(.ints .u64 5 [358744748052810, 1691584618240980, 977650209285361, 1429865912637724, 560044844278676]), (.ints .u64 5 [2166873539340326, 1778179147085316, 1886209374839743, 1223329526802818, 105300633354275]), (.ints .u64 5 [1, 0, 0, 0, 0]), (.ints .u64 5 [803472979097708, 393902981724766, 1158077081819914, 574391322974006, 336294660666841])])]), (.agg [(.agg [(.ints .u64 5 [1718705420411056, 234908883556509, 2233514472574048, 2117202627021982, 765476049583133]), (.ints .u64 5 [0, 0, 0, 0, 0]), (.ints .u64 5 [1, 0, 0, 0, 0]), (.ints .u64 5 [0, 0, 0, 0, 0])])]), (.agg [(.agg [(.ints .u64 5 [358744748052810, 1691584618240980, 977650209285361, 1429865912637724, 560044844278676]), (.ints .u64 5 [84926274344903, 473620666599931, 365590438845504, 1028470286882429, 2146499180330972]), (.ints .u64 5 [1, 0, 0, 0, 0]), (.ints .u64 5 [1448326834587521, 1857896831960481, 1093722731865333, 1677408490711241, 1915505153018406])])]), (.agg [(.agg [(.ints .u64 5 [0, 0, 0, 0, 0]), (.ints .u64 5 [2251799813685228, 2251799813685247, 2251799813685247, 2251799813685247, 2251799813685247]), (.ints .u64 5 [1, 0, 0, 0, 0]), (.ints .u64 5 [0, 0, 0, 0, 0])])]), (.agg [(.agg [(.ints .u64 5 [1893055065632419, 560215195444267, 1274149604399886, 821933901047523, 1691754969406571]), (.ints .u64 5 [84926274344903, 473620666599931, 365590438845504, 1028470286882429, 2146499180330972]), (.ints .u64 5 [1, 0, 0, 0, 0]), (.ints .u64 5 [803472979097708, 393902981724766, 1158077081819914, 574391322974006, 336294660666841])])]), (.agg [(.agg [(.ints .u64 5 [533094393274173, 2016890930128738, 18285341111199, 134597186663265, 1486323764102114]), (.ints .u64 5 [0, 0, 0, 0, 0]), (.ints .u64 5 [1, 0, 0, 0, 0]), (.ints .u64 5 [0, 0, 0, 0, 0])])]), (.agg [(.agg [(.ints .u64 5 [1893055065632419, 560215195444267, 1274149604399886, 821933901047523, 1691754969406571]), (.ints .u64 5 [2166873539340326, 1778179147085316, 1886209374839743, 1223329526802818, 105300633354275]), (.ints .u64 5 [1, 0, 0, 0, 0]), (.ints .u64 5 [1448326834587521, 1857896831960481, 1093722731865333, 1677408490711241, 1915505153018406])])])])⟩]
noncomputable def ls_curve_Torsion : List (Nat × Lf) := []
theorem r_curve_Torsion : RunIs Tryd.prog (cs_curve_Torsion) gs_curve_Torsion 0 (ls_curve_Torsion) Tryd.f12 A_curve_Torsion B_curve_Torsion (fun x => curve_Torsion x) := by
  intro x; kernel_rfl
theorem s_curve_Torsion {w0 : World}  (hcs : ∀ x ∈ cs_curve_Torsion, SoundAt Tryd.prog w0 x.1 x.2) (hg : GlobOK Tryd.prog w0 gs_curve_Torsion) : SoundAt Tryd.prog w0 12 ct_curve_Torsion := by
  exact fn_printed hcs hg Tryd.func12 (by kernel_rfl) (by kernel_rfl) (S := 0) (fun w _ => loopsOK_nil _) (fun _ => rfl) (r_curve_Torsion)
theorem k_curve_Torsion {w0 : World}  (hg_curve_Torsion : GlobOK Tryd.prog w0 gs_curve_Torsion) : SoundAt Tryd.prog w0 12 ct_curve_Torsion :=
  s_curve_Torsion cs_nil hg_curve_Torsion

abbrev A_curve_xOf : Ag (List Int) := (.one (.ints .u64 5))
abbrev B_curve_xOf : Pt ((List Int × Bool)) := (.tup (.cons (.ints .u64 5) (.one .bool)))
def ct_curve_xOf (N : Nat) : Ct := fct A_curve_xOf B_curve_xOf fun x => curve_xOf N x
def cs_curve_xOf (N : Nat) : List (FuncId × Ct) := [(29, ct_field_Elem_Square), (30, ct_field_Elem_Sub), (31, ct_field_Elem_Add), (32, ct_field_Const), (33, ct_field_Elem_Mul), (72, (ct_field_SqrtRatio N))]
def gs_curve_xOf : List Gv := [⟨3, 35, (.ints .u64 5 [1, 0, 0, 0, 0])⟩]
noncomputable def ls_curve_xOf (N : Nat) : List (Nat × Lf) := []
theorem r_curve_xOf (N : Nat) : RunIs Tryd.prog (cs_curve_xOf N) gs_curve_xOf 0 (ls_curve_xOf N) Tryd.f39 A_curve_xOf B_curve_xOf (fun x => curve_xOf N x) := by
  intro x; kernel_rfl
theorem s_curve_xOf {w0 : World} (N : Nat)  (hcs : ∀ x ∈ cs_curve_xOf N, SoundAt Tryd.prog w0 x.1 x.2) (hg : GlobOK Tryd.prog w0 gs_curve_xOf) : SoundAt Tryd.prog w0 39 (ct_curve_xOf N) := by
  exact fn_printed hcs hg Tryd.func39 (by kernel_rfl) (by kernel_rfl) (S := 0) (fun w _ => loopsOK_nil _) (fun _ => rfl) (r_curve_xOf N)
theorem k_curve_xOf {w0 : World} (N : Nat)  (hg_field_Const : GlobOK Tryd.prog w0 gs_field_Const) (hg_field_SqrtRatio : GlobOK Tryd.prog w0 gs_field_SqrtRatio) (hg_curve_xOf : GlobOK Tryd.prog w0 gs_curve_xOf) : SoundAt Tryd.prog w0 39 (ct_curve_xOf N) :=
  s_curve_xOf N (cs_cons (k_field_Elem_Square) (cs_cons (k_field_Elem_Sub) (cs_cons (k_field_Elem_Add) (cs_cons (k_field_Const hg_field_Const) (cs_cons (k_field_Elem_Mul) (cs_cons (k_field_SqrtRatio N hg_field_SqrtRatio) cs_nil)))))) hg_curve_xOf

abbrev A_curve_Decompress : Ag (List Int) := (.one (.ints .u8 32))
abbrev B_curve_Decompress : Pt (((List Int × List Int × List Int × List Int) × Int)) := (.tup (.cons (.agg (.one (.agg (.cons (.ints .u64 5) (.cons (.ints .u64 5) (.cons (.ints .u64 5) (.one (.ints .u64 5)))))))) (.one (.int .i64))))
def ct_curve_Decompress (N : Nat) : Ct := fct A_curve_Decompress B_curve_Decompress fun x => curve_Decompress N x
def cs_curve_Decompress (N : Nat) : List (FuncId × Ct) := [(34, ct_curve_at), (38, ct_field_Decode), (39, (ct_curve_xOf N)), (40, ct_field_Elem_IsZero), (41, ct_field_Elem_Neg)]
def gs_curve_Decompress : List Gv := []
noncomputable def is_curve_Decompress (N : Nat) : List (FuncId × Inl) := ((37, inlOf Tryd.prog (cs_curve_Decompress N) gs_curve_Decompress 0 100 [] Tryd.f37) :: [])
theorem isok_curve_Decompress (N : Nat) : InlAll Tryd.prog (cs_curve_Decompress N) gs_curve_Decompress 0 100 (is_curve_Decompress N) := ⟨⟨Tryd.f37, Tryd.func37, by kernel_rfl, by kernel_rfl, rfl⟩, trivial⟩
noncomputable def ls_curve_Decompress (N : Nat) : List (Nat × Lf) := []
theorem r_curve_Decompress (N : Nat) : RunIs Tryd.prog (cs_curve_Decompress N) gs_curve_Decompress 0 (ls_curve_Decompress N) Tryd.f17 A_curve_Decompress B_curve_Decompress (fun x => curve_Decompress N x) (fun g => lkI g (is_curve_Decompress N)) := by
  intro x; kernel_rfl
theorem s_curve_Decompress {w0 : World} (N : Nat)  (hcs : ∀ x ∈ cs_curve_Decompress N, SoundAt Tryd.prog w0 x.1 x.2) : SoundAt Tryd.prog w0 17 (ct_curve_Decompress N) := by
  exact fn_printedI hcs (glob_nil _ _) (isok_curve_Decompress N) Tryd.func17 (by kernel_rfl) (by kernel_rfl) (S := 0) (fun w _ => loopsOK_nil _) (fun _ => rfl) (r_curve_Decompress N)
theorem k_curve_Decompress {w0 : World} (N : Nat)  (hg_curve_at : GlobOK Tryd.prog w0 gs_curve_at) (hg_field_Const : GlobOK Tryd.prog w0 gs_field_Const) (hg_field_SqrtRatio : GlobOK Tryd.prog w0 gs_field_SqrtRatio) (hg_curve_xOf : GlobOK Tryd.prog w0 gs_curve_xOf) : SoundAt Tryd.prog w0 17 (ct_curve_Decompress N) :=
  s_curve_Decompress N (cs_cons (k_curve_at hg_curve_at) (cs_cons (k_field_Decode) (cs_cons (k_curve_xOf N hg_field_Const hg_field_SqrtRatio hg_curve_xOf) (cs_cons (k_field_Elem_IsZero) (cs_cons (k_field_Elem_Neg) cs_nil)))))

abbrev A_veilref01_below : Ag ((List Int × List Int)) := (.cons (.ints .i64 10) (.one (.ints .i64 10)))
abbrev B_veilref01_below : Pt (Bool) := .bool
def ct_veilref01_below : Ct := tct A_veilref01_below B_veilref01_below fun x => veilref01_below x.1 x.2
def cs_veilref01_below : List (FuncId × Ct) := []
def gs_veilref01_below : List Gv := []
noncomputable def ls_veilref01_below : List (Nat × Lf) := []
theorem r_veilref01_below : RunIs Tryd.prog (cs_veilref01_below) gs_veilref01_below 0 (ls_veilref01_below) Tryd.f69 A_veilref01_below B_veilref01_below (fun x => veilref01_below_o x.1 x.2) := by
  intro x; kernel_rfl
theorem s_veilref01_below {w0 : World}  (hcs : ∀ x ∈ cs_veilref01_below, SoundAt Tryd.prog w0 x.1 x.2) : SoundAt Tryd.prog w0 69 ct_veilref01_below := by
  exact sound_tct (fn_printed hcs (glob_nil _ _) Tryd.func69 (by kernel_rfl) (by kernel_rfl) (S := 0) (fun w _ => loopsOK_nil _) (fun _ => rfl) (r_veilref01_below)) fun _ _ => veilref01_below_tot _ _
theorem k_veilref01_below {w0 : World}  : SoundAt Tryd.prog w0 69 ct_veilref01_below :=
  s_veilref01_below cs_nil

abbrev A_veilref01_minus : Ag ((List Int × List Int)) := (.cons (.ints .i64 10) (.one (.ints .i64 10)))
abbrev B_veilref01_minus : Pt (List Int) := (.ints .i64 10)
def ct_veilref01_minus : Ct := tct A_veilref01_minus B_veilref01_minus fun x => veilref01_minus x.1 x.2
def cs_veilref01_minus : List (FuncId × Ct) := []
def gs_veilref01_minus : List Gv := []
noncomputable def ls_veilref01_minus : List (Nat × Lf) := []
theorem r_veilref01_minus : RunIs Tryd.prog (cs_veilref01_minus) gs_veilref01_minus 0 (ls_veilref01_minus) Tryd.f70 A_veilref01_minus B_veilref01_minus (fun x => some (veilref01_minus x.1 x.2)) := by
  intro x; kernel_rfl
theorem s_veilref01_minus {w0 : World}  (hcs : ∀ x ∈ cs_veilref01_minus, SoundAt Tryd.prog w0 x.1 x.2) : SoundAt Tryd.prog w0 70 ct_veilref01_minus := by
  exact sound_tct (fn_printed hcs (glob_nil _ _) Tryd.func70 (by kernel_rfl) (by kernel_rfl) (S := 0) (fun w _ => loopsOK_nil _) (fun _ => rfl) (r_veilref01_minus)) fun _ _ => rfl
theorem k_veilref01_minus {w0 : World}  : SoundAt Tryd.prog w0 70 ct_veilref01_minus :=
  s_veilref01_minus cs_nil

abbrev A_veilref01_least : Ag (List Int) := (.one (.ints .i64 20))
abbrev B_veilref01_least : Pt (List Int) := (.ints .i64 10)
def ct_veilref01_least (N : Nat) : Ct := fct A_veilref01_least B_veilref01_least fun x => veilref01_least N x
def cs_veilref01_least (N : Nat) : List (FuncId × Ct) := [(69, ct_veilref01_below), (70, ct_veilref01_minus)]
def gs_veilref01_least : List Gv := [⟨6, 46, (.ints .i64 10 [67108845, 67108863, 67108863, 67108863, 67108863, 67108863, 67108863, 67108863, 67108863, 2097151])⟩]
def veilref01_least_l4_H : Fm ((Unit × Int × Unit × Bool)) ((Unit × Unit × List Int)) := ⟨(.cons 2 (.lit (.ptr 2 [] 46)) (.cons 3 (.int .i64) (.cons 5 (.lit (.ptr 387 [] 46)) (.one 7 .bool)))), (.cons 0 (.lit (.ints .i64 10 [67108845, 67108863, 67108863, 67108863, 67108863, 67108863, 67108863, 67108863, 67108863, 2097151])) (.cons 2 (.lit (.ints .i64 10 [0, 0, 0, 0, 0, 0, 0, 0, 0, 0])) (.one 387 (.ints .i64 10))))⟩
def veilref01_least_l4_O : Fm ((Unit × Unit)) ((Unit × Unit × List Int)) := ⟨(.cons 2 (.lit (.ptr 2 [] 46)) (.one 5 (.lit (.ptr 387 [] 46)))), (.cons 0 (.lit (.ints .i64 10 [67108845, 67108863, 67108863, 67108863, 67108863, 67108863, 67108863, 67108863, 67108863, 2097151])) (.cons 2 (.lit (.ints .i64 10 [0, 0, 0, 0, 0, 0, 0, 0, 0, 0])) (.one 387 (.ints .i64 10))))⟩
def veilref01_least_l4_T : Fm (Unit) (Unit) := ⟨.nil, .nil⟩
noncomputable def ls_veilref01_least (N : Nat) : List (Nat × Lf) := [(4, loopCt veilref01_least_l4_H veilref01_least_l4_O veilref01_least_l4_T 563 (veilref01_least_l4 N) N)]
theorem veilref01_least_l4_step (N : Nat) : StepIs Tryd.prog (cxOf Tryd.f36 (cs_veilref01_least N) gs_veilref01_least 0) (ls_veilref01_least N) Tryd.f36 4 563 veilref01_least_l4_H veilref01_least_l4_O veilref01_least_l4_T (veilref01_least_l4 N) := by
  intro v; kernel_rfl
theorem r_veilref01_least (N : Nat) : RunIs Tryd.prog (cs_veilref01_least N) gs_veilref01_least 0 (ls_veilref01_least N) Tryd.f36 A_veilref01_least B_veilref01_least (fun x => veilref01_least N x) := by
  intro x; kernel_rfl
theorem s_veilref01_least {w0 : World} (N : Nat)  (hcs : ∀ x ∈ cs_veilref01_least N, SoundAt Tryd.prog w0 x.1 x.2) (hg : GlobOK Tryd.prog w0 gs_veilref01_least) : SoundAt Tryd.prog w0 36 (ct_veilref01_least N) := by
  have L4 : ∀ w, RowKit.Below w0.heap.size w0 w → LoopOK Tryd.prog (cxOf Tryd.f36 (cs_veilref01_least N) gs_veilref01_least 0) w 4 (.loop (loopBody Tryd.f36 4)) (loopCt veilref01_least_l4_H veilref01_least_l4_O veilref01_least_l4_T 563 (veilref01_least_l4 N) N) :=
    loop_printed hcs (ls := ls_veilref01_least N) (n := 100) (by kernel_rfl) (veilref01_least_l4_step N) N fun w hw => loopsOK_list (lp_no (by kernel_rfl) lp_nil)
  exact fn_printed hcs hg Tryd.func36 (by kernel_rfl) (by kernel_rfl) (S := 0) (fun w hw => loopsOK_list (lp_yes (L4 w hw) (by kernel_rfl) lp_nil)) (fun _ => rfl) (r_veilref01_least N)
theorem k_veilref01_least {w0 : World} (N : Nat)  (hg_veilref01_least : GlobOK Tryd.prog w0 gs_veilref01_least) : SoundAt Tryd.prog w0 36 (ct_veilref01_least N) :=
  s_veilref01_least N (cs_cons (k_veilref01_below) (cs_cons (k_veilref01_minus) cs_nil)) hg_veilref01_least

abbrev A_veilref01_Of : Ag (List Int) := (.one (.ints .u64 5))
abbrev B_veilref01_Of : Pt (List Int) := (.ints .i64 10)
def ct_veilref01_Of (N : Nat) : Ct := fct A_veilref01_Of B_veilref01_Of fun x => veilref01_Of N x
def cs_veilref01_Of (N : Nat) : List (FuncId × Ct) := [(36, (ct_veilref01_least N))]
def gs_veilref01_Of : List Gv := []
def veilref01_Of_l2_H : Fm ((Unit × Unit × Unit × Int × Int)) ((List Int × Unit × List Int)) := ⟨(.cons 1 (.lit (.ptr 0 [] 34)) (.cons 2 (.lit (.ptr 1 [] 46)) (.cons 3 (.lit (.ptr 2 [] 77)) (.cons 4 (.int .i64) (.one 5 (.int .i64)))))), (.cons 0 (.ints .u64 5) (.cons 1 (.lit (.ints .i64 10 [0, 0, 0, 0, 0, 0, 0, 0, 0, 0])) (.one 2 (.ints .i64 20))))⟩
def veilref01_Of_l2_O : Fm ((Unit × Unit × Unit × Int)) ((List Int × Unit × List Int)) := ⟨(.cons 1 (.lit (.ptr 0 [] 34)) (.cons 2 (.lit (.ptr 1 [] 46)) (.cons 3 (.lit (.ptr 2 [] 77)) (.one 4 (.int .i64))))), (.cons 0 (.ints .u64 5) (.cons 1 (.lit (.ints .i64 10 [0, 0, 0, 0, 0, 0, 0, 0, 0, 0])) (.one 2 (.ints .i64 20))))⟩
def veilref01_Of_l2_T : Fm (Unit) (Unit) := ⟨.nil, .nil⟩
def veilref01_Of_l0_H : Fm ((Unit × Unit × Unit × Int)) ((List Int × Unit × List Int)) := ⟨(.cons 1 (.lit (.ptr 0 [] 34)) (.cons 2 (.lit (.ptr 1 [] 46)) (.cons 3 (.lit (.ptr 2 [] 77)) (.one 4 (.int .i64))))), (.cons 0 (.ints .u64 5) (.cons 1 (.lit (.ints .i64 10 [0, 0, 0, 0, 0, 0, 0, 0, 0, 0])) (.one 2 (.ints .i64 20))))⟩
def veilref01_Of_l0_O : Fm ((Unit × Unit)) ((Unit × List Int)) := ⟨(.cons 2 (.lit (.ptr 1 [] 46)) (.one 3 (.lit (.ptr 2 [] 77)))), (.cons 1 (.lit (.ints .i64 10 [0, 0, 0, 0, 0, 0, 0, 0, 0, 0])) (.one 2 (.ints .i64 20)))⟩
def veilref01_Of_l0_T : Fm (Unit) (Unit) := ⟨.nil, .nil⟩
noncomputable def ls_veilref01_Of (N : Nat) : List (Nat × Lf) := [(2, loopCt veilref01_Of_l2_H veilref01_Of_l2_O veilref01_Of_l2_T 7 (veilref01_Of_l2 N) N), (0, loopCt veilref01_Of_l0_H veilref01_Of_l0_O veilref01_Of_l0_T 4 (veilref01_Of_l0 N) N)]
theorem veilref01_Of_l2_step (N : Nat) : StepIs Tryd.prog (cxOf Tryd.f16 (cs_veilref01_Of N) gs_veilref01_Of 0) (ls_veilref01_Of N) Tryd.f16 2 7 veilref01_Of_l2_H veilref01_Of_l2_O veilref01_Of_l2_T (veilref01_Of_l2 N) := by
  intro v; kernel_rfl
theorem veilref01_Of_l0_step (N : Nat) : StepIs Tryd.prog (cxOf Tryd.f16 (cs_veilref01_Of N) gs_veilref01_Of 0) (ls_veilref01_Of N) Tryd.f16 0 4 veilref01_Of_l0_H veilref01_Of_l0_O veilref01_Of_l0_T (veilref01_Of_l0 N) := by
  intro v; kernel_rfl
theorem r_veilref01_Of (N : Nat) : RunIs Tryd.prog (cs_veilref01_Of N) gs_veilref01_Of 0 (ls_veilref01_Of N) Tryd.f16 A_veilref01_Of B_veilref01_Of (fun x => veilref01_Of N x) := by
  intro x; kernel_rfl
theorem s_veilref01_Of {w0 : World} (N : Nat)  (hcs : ∀ x ∈ cs_veilref01_Of N, SoundAt Tryd.prog w0 x.1 x.2) : SoundAt Tryd.prog w0 16 (ct_veilref01_Of N) := by
  have L2 : ∀ w, RowKit.Below w0.heap.size w0 w → LoopOK Tryd.prog (cxOf Tryd.f16 (cs_veilref01_Of N) gs_veilref01_Of 0) w 2 (.loop (loopBody Tryd.f16 2)) (loopCt veilref01_Of_l2_H veilref01_Of_l2_O veilref01_Of_l2_T 7 (veilref01_Of_l2 N) N) :=
    loop_printed hcs (ls := ls_veilref01_Of N) (n := 100) (by kernel_rfl) (veilref01_Of_l2_step N) N fun w hw => loopsOK_list (lp_no (by kernel_rfl) (lp_no (by kernel_rfl) lp_nil))
  have L0 : ∀ w, RowKit.Below w0.heap.size w0 w → LoopOK Tryd.prog (cxOf Tryd.f16 (cs_veilref01_Of N) gs_veilref01_Of 0) w 0 (.loop (loopBody Tryd.f16 0)) (loopCt veilref01_Of_l0_H veilref01_Of_l0_O veilref01_Of_l0_T 4 (veilref01_Of_l0 N) N) :=
    loop_printed hcs (ls := ls_veilref01_Of N) (n := 100) (by kernel_rfl) (veilref01_Of_l0_step N) N fun w hw => loopsOK_list (lp_yes (L2 w hw) (by kernel_rfl) (lp_no (by kernel_rfl) lp_nil))
  exact fn_printed hcs (glob_nil _ _) Tryd.func16 (by kernel_rfl) (by kernel_rfl) (S := 0) (fun w hw => loopsOK_list (lp_yes (L2 w hw) (by kernel_rfl) (lp_yes (L0 w hw) (by kernel_rfl) lp_nil))) (fun _ => rfl) (r_veilref01_Of N)
theorem k_veilref01_Of {w0 : World} (N : Nat)  (hg_veilref01_least : GlobOK Tryd.prog w0 gs_veilref01_least) : SoundAt Tryd.prog w0 16 (ct_veilref01_Of N) :=
  s_veilref01_Of N (cs_cons (k_veilref01_least N hg_veilref01_least) cs_nil)

abbrev A_veilref01_Small : Ag (Int) := (.one (.int .u64))
abbrev B_veilref01_Small : Pt (List Int) := (.ints .i64 10)
def ct_veilref01_Small (N : Nat) : Ct := fct A_veilref01_Small B_veilref01_Small fun x => veilref01_Small N x
def cs_veilref01_Small (N : Nat) : List (FuncId × Ct) := [(36, (ct_veilref01_least N))]
def gs_veilref01_Small : List Gv := []
noncomputable def ls_veilref01_Small (N : Nat) : List (Nat × Lf) := []
theorem r_veilref01_Small (N : Nat) : RunIs Tryd.prog (cs_veilref01_Small N) gs_veilref01_Small 0 (ls_veilref01_Small N) Tryd.f22 A_veilref01_Small B_veilref01_Small (fun x => veilref01_Small N x) := by
  intro x; kernel_rfl
theorem s_veilref01_Small {w0 : World} (N : Nat)  (hcs : ∀ x ∈ cs_veilref01_Small N, SoundAt Tryd.prog w0 x.1 x.2) : SoundAt Tryd.prog w0 22 (ct_veilref01_Small N) := by
  exact fn_printed hcs (glob_nil _ _) Tryd.func22 (by kernel_rfl) (by kernel_rfl) (S := 0) (fun w _ => loopsOK_nil _) (fun _ => rfl) (r_veilref01_Small N)
theorem k_veilref01_Small {w0 : World} (N : Nat)  (hg_veilref01_least : GlobOK Tryd.prog w0 gs_veilref01_least) : SoundAt Tryd.prog w0 22 (ct_veilref01_Small N) :=
  s_veilref01_Small N (cs_cons (k_veilref01_least N hg_veilref01_least) cs_nil)

abbrev A_veilref01_F_Add : Ag ((List Int × List Int)) := (.cons (.ints .i64 10) (.one (.ints .i64 10)))
abbrev B_veilref01_F_Add : Pt (List Int) := (.ints .i64 10)
def ct_veilref01_F_Add (N : Nat) : Ct := fct A_veilref01_F_Add B_veilref01_F_Add fun x => veilref01_F_Add N x.1 x.2
def cs_veilref01_F_Add (N : Nat) : List (FuncId × Ct) := [(36, (ct_veilref01_least N))]
def gs_veilref01_F_Add : List Gv := []
noncomputable def ls_veilref01_F_Add (N : Nat) : List (Nat × Lf) := []
theorem r_veilref01_F_Add (N : Nat) : RunIs Tryd.prog (cs_veilref01_F_Add N) gs_veilref01_F_Add 0 (ls_veilref01_F_Add N) Tryd.f63 A_veilref01_F_Add B_veilref01_F_Add (fun x => veilref01_F_Add N x.1 x.2) := by
  intro x; kernel_rfl
theorem s_veilref01_F_Add {w0 : World} (N : Nat)  (hcs : ∀ x ∈ cs_veilref01_F_Add N, SoundAt Tryd.prog w0 x.1 x.2) : SoundAt Tryd.prog w0 63 (ct_veilref01_F_Add N) := by
  exact fn_printed hcs (glob_nil _ _) Tryd.func63 (by kernel_rfl) (by kernel_rfl) (S := 0) (fun w _ => loopsOK_nil _) (fun _ => rfl) (r_veilref01_F_Add N)
theorem k_veilref01_F_Add {w0 : World} (N : Nat)  (hg_veilref01_least : GlobOK Tryd.prog w0 gs_veilref01_least) : SoundAt Tryd.prog w0 63 (ct_veilref01_F_Add N) :=
  s_veilref01_F_Add N (cs_cons (k_veilref01_least N hg_veilref01_least) cs_nil)

abbrev A_veilref01_F_Neg : Ag (List Int) := (.one (.ints .i64 10))
abbrev B_veilref01_F_Neg : Pt (List Int) := (.ints .i64 10)
def ct_veilref01_F_Neg : Ct := tct A_veilref01_F_Neg B_veilref01_F_Neg fun x => veilref01_F_Neg x
def cs_veilref01_F_Neg : List (FuncId × Ct) := [(70, ct_veilref01_minus)]
def gs_veilref01_F_Neg : List Gv := [⟨4, 46, (.ints .i64 10 [0, 0, 0, 0, 0, 0, 0, 0, 0, 0])⟩, ⟨6, 46, (.ints .i64 10 [67108845, 67108863, 67108863, 67108863, 67108863, 67108863, 67108863, 67108863, 67108863, 2097151])⟩]
noncomputable def ls_veilref01_F_Neg : List (Nat × Lf) := []
theorem r_veilref01_F_Neg : RunIs Tryd.prog (cs_veilref01_F_Neg) gs_veilref01_F_Neg 0 (ls_veilref01_F_Neg) Tryd.f43 A_veilref01_F_Neg B_veilref01_F_Neg (fun x => veilref01_F_Neg_o x) := by
  intro x; kernel_rfl
theorem s_veilref01_F_Neg {w0 : World}  (hcs : ∀ x ∈ cs_veilref01_F_Neg, SoundAt Tryd.prog w0 x.1 x.2) (hg : GlobOK Tryd.prog w0 gs_veilref01_F_Neg) : SoundAt Tryd.prog w0 43 ct_veilref01_F_Neg := by
  exact sound_tct (fn_printed hcs hg Tryd.func43 (by kernel_rfl) (by kernel_rfl) (S := 0) (fun w _ => loopsOK_nil _) (fun _ => rfl) (r_veilref01_F_Neg)) fun _ _ => veilref01_F_Neg_tot _
theorem k_veilref01_F_Neg {w0 : World}  (hg_veilref01_F_Neg : GlobOK Tryd.prog w0 gs_veilref01_F_Neg) : SoundAt Tryd.prog w0 43 ct_veilref01_F_Neg :=
  s_veilref01_F_Neg (cs_cons (k_veilref01_minus) cs_nil) hg_veilref01_F_Neg

abbrev A_veilref01_F_Sub : Ag ((List Int × List Int)) := (.cons (.ints .i64 10) (.one (.ints .i64 10)))
abbrev B_veilref01_F_Sub : Pt (List Int) := (.ints .i64 10)
def ct_veilref01_F_Sub (N : Nat) : Ct := fct A_veilref01_F_Sub B_veilref01_F_Sub fun x => veilref01_F_Sub N x.1 x.2
def cs_veilref01_F_Sub (N : Nat) : List (FuncId × Ct) := [(43, ct_veilref01_F_Neg), (63, (ct_veilref01_F_Add N))]
def gs_veilref01_F_Sub : List Gv := []
noncomputable def ls_veilref01_F_Sub (N : Nat) : List (Nat × Lf) := []
theorem r_veilref01_F_Sub (N : Nat) : RunIs Tryd.prog (cs_veilref01_F_Sub N) gs_veilref01_F_Sub 0 (ls_veilref01_F_Sub N) Tryd.f61 A_veilref01_F_Sub B_veilref01_F_Sub (fun x => veilref01_F_Sub N x.1 x.2) := by
  intro x; kernel_rfl
theorem s_veilref01_F_Sub {w0 : World} (N : Nat)  (hcs : ∀ x ∈ cs_veilref01_F_Sub N, SoundAt Tryd.prog w0 x.1 x.2) : SoundAt Tryd.prog w0 61 (ct_veilref01_F_Sub N) := by
  exact fn_printed hcs (glob_nil _ _) Tryd.func61 (by kernel_rfl) (by kernel_rfl) (S := 0) (fun w _ => loopsOK_nil _) (fun _ => rfl) (r_veilref01_F_Sub N)
theorem k_veilref01_F_Sub {w0 : World} (N : Nat)  (hg_veilref01_F_Neg : GlobOK Tryd.prog w0 gs_veilref01_F_Neg) (hg_veilref01_least : GlobOK Tryd.prog w0 gs_veilref01_least) : SoundAt Tryd.prog w0 61 (ct_veilref01_F_Sub N) :=
  s_veilref01_F_Sub N (cs_cons (k_veilref01_F_Neg hg_veilref01_F_Neg) (cs_cons (k_veilref01_F_Add N hg_veilref01_least) cs_nil))

abbrev A_veilref01_F_Mul : Ag ((List Int × List Int)) := (.cons (.ints .i64 10) (.one (.ints .i64 10)))
abbrev B_veilref01_F_Mul : Pt (List Int) := (.ints .i64 10)
def ct_veilref01_F_Mul (N : Nat) : Ct := fct A_veilref01_F_Mul B_veilref01_F_Mul fun x => veilref01_F_Mul N x.1 x.2
def cs_veilref01_F_Mul (N : Nat) : List (FuncId × Ct) := [(36, (ct_veilref01_least N))]
def gs_veilref01_F_Mul : List Gv := []
noncomputable def ls_veilref01_F_Mul (N : Nat) : List (Nat × Lf) := []
theorem r_veilref01_F_Mul (N : Nat) : RunIs Tryd.prog (cs_veilref01_F_Mul N) gs_veilref01_F_Mul 0 (ls_veilref01_F_Mul N) Tryd.f23 A_veilref01_F_Mul B_veilref01_F_Mul (fun x => veilref01_F_Mul N x.1 x.2) := by
  intro x; kernel_rfl
theorem s_veilref01_F_Mul {w0 : World} (N : Nat)  (hcs : ∀ x ∈ cs_veilref01_F_Mul N, SoundAt Tryd.prog w0 x.1 x.2) : SoundAt Tryd.prog w0 23 (ct_veilref01_F_Mul N) := by
  exact fn_printed hcs (glob_nil _ _) Tryd.func23 (by kernel_rfl) (by kernel_rfl) (S := 0) (fun w _ => loopsOK_nil _) (fun _ => rfl) (r_veilref01_F_Mul N)
theorem k_veilref01_F_Mul {w0 : World} (N : Nat)  (hg_veilref01_least : GlobOK Tryd.prog w0 gs_veilref01_least) : SoundAt Tryd.prog w0 23 (ct_veilref01_F_Mul N) :=
  s_veilref01_F_Mul N (cs_cons (k_veilref01_least N hg_veilref01_least) cs_nil)

abbrev A_veilref01_F_ones : Ag ((List Int × Int)) := (.cons (.ints .i64 10) (.one (.int .i64)))
abbrev B_veilref01_F_ones : Pt (List Int) := (.ints .i64 10)
def ct_veilref01_F_ones (N : Nat) : Ct := fct A_veilref01_F_ones B_veilref01_F_ones fun x => veilref01_F_ones N x.1 x.2
def ct_veilref01_F_ones_step (rec : List Int → Int → Option (List Int)) (N : Nat) : Ct := fct A_veilref01_F_ones B_veilref01_F_ones fun x => veilref01_F_ones_step rec N x.1 x.2
def cs_veilref01_F_ones_step (rec : List Int → Int → Option (List Int)) (N : Nat) : List (FuncId × Ct) := [(23, (ct_veilref01_F_Mul N)), (59, (fct (.cons (.ints .i64 10) (.one (.int .i64))) (.ints .i64 10) fun x => rec x.1 x.2))]
def gs_veilref01_F_ones_step : List Gv := []
def veilref01_F_ones_l0_H : Fm ((Int × Unit × Unit × Unit × Unit × Int)) ((List Int × Unit × List Int × List Int)) := ⟨(.cons 1 (.int .i64) (.cons 2 (.lit (.ptr 0 [] 46)) (.cons 4 (.lit (.ptr 1 [] 46)) (.cons 5 (.lit (.ptr 8 [] 46)) (.cons 6 (.lit (.ptr 11 [] 46)) (.one 7 (.int .i64))))))), (.cons 0 (.ints .i64 10) (.cons 1 (.lit (.ints .i64 10 [0, 0, 0, 0, 0, 0, 0, 0, 0, 0])) (.cons 8 (.ints .i64 10) (.one 11 (.ints .i64 10)))))⟩
def veilref01_F_ones_l0_O : Fm ((Int × Unit × Unit × Unit × Unit)) ((List Int × Unit × List Int × List Int)) := ⟨(.cons 1 (.int .i64) (.cons 2 (.lit (.ptr 0 [] 46)) (.cons 4 (.lit (.ptr 1 [] 46)) (.cons 5 (.lit (.ptr 8 [] 46)) (.one 6 (.lit (.ptr 11 [] 46))))))), (.cons 0 (.ints .i64 10) (.cons 1 (.lit (.ints .i64 10 [0, 0, 0, 0, 0, 0, 0, 0, 0, 0])) (.cons 8 (.ints .i64 10) (.one 11 (.ints .i64 10)))))⟩
def veilref01_F_ones_l0_T : Fm (Unit) (Unit) := ⟨.nil, .nil⟩
noncomputable def ls_veilref01_F_ones_step (rec : List Int → Int → Option (List Int)) (N : Nat) : List (Nat × Lf) := [(0, loopCt veilref01_F_ones_l0_H veilref01_F_ones_l0_O veilref01_F_ones_l0_T 14 (veilref01_F_ones_l0 N) N)]
theorem veilref01_F_ones_l0_step (rec : List Int → Int → Option (List Int)) (N : Nat) : StepIs Tryd.prog (cxOf Tryd.f59 (cs_veilref01_F_ones_step rec N) gs_veilref01_F_ones_step 0) (ls_veilref01_F_ones_step rec N) Tryd.f59 0 14 veilref01_F_ones_l0_H veilref01_F_ones_l0_O veilref01_F_ones_l0_T (veilref01_F_ones_l0 N) := by
  intro v; kernel_rfl
theorem r_veilref01_F_ones_step (rec : List Int → Int → Option (List Int)) (N : Nat) : RunIs Tryd.prog (cs_veilref01_F_ones_step rec N) gs_veilref01_F_ones_step 0 (ls_veilref01_F_ones_step rec N) Tryd.f59 A_veilref01_F_ones B_veilref01_F_ones (fun x => veilref01_F_ones_step rec N x.1 x.2) := by
  intro x; kernel_rfl
theorem s_veilref01_F_ones_step {w0 : World} (rec : List Int → Int → Option (List Int)) (N : Nat)  (hcs : ∀ x ∈ cs_veilref01_F_ones_step rec N, SoundAt Tryd.prog w0 x.1 x.2) : SoundAt Tryd.prog w0 59 (ct_veilref01_F_ones_step rec N) := by
  have L0 : ∀ w, RowKit.Below w0.heap.size w0 w → LoopOK Tryd.prog (cxOf Tryd.f59 (cs_veilref01_F_ones_step rec N) gs_veilref01_F_ones_step 0) w 0 (.loop (loopBody Tryd.f59 0)) (loopCt veilref01_F_ones_l0_H veilref01_F_ones_l0_O veilref01_F_ones_l0_T 14 (veilref01_F_ones_l0 N) N) :=
    loop_printed hcs (ls := ls_veilref01_F_ones_step rec N) (n := 100) (by kernel_rfl) (veilref01_F_ones_l0_step rec N) N fun w hw => loopsOK_list (lp_no (by kernel_rfl) lp_nil)
  exact fn_printed hcs (glob_nil _ _) Tryd.func59 (by kernel_rfl) (by kernel_rfl) (S := 0) (fun w hw => loopsOK_list (lp_yes (L0 w hw) (by kernel_rfl) lp_nil)) (fun _ => rfl) (r_veilref01_F_ones_step rec N)
theorem k_veilref01_F_ones {w0 : World} (N : Nat)  (hg_veilref01_least : GlobOK Tryd.prog w0 gs_veilref01_least) : SoundAt Tryd.prog w0 59 (ct_veilref01_F_ones N) := by
  have h : ∀ m, SoundAt Tryd.prog w0 59 (fct A_veilref01_F_ones B_veilref01_F_ones fun x => veilref01_F_ones_go N m x.1 x.2) := by
    intro m
    induction m with
    | zero => exact sound_never
    | succ m ih => exact s_veilref01_F_ones_step (veilref01_F_ones_go N m) N (cs_cons (k_veilref01_F_Mul N hg_veilref01_least) (cs_cons ih cs_nil))
  exact h N

abbrev A_veilref01_F_Invert : Ag (List Int) := (.one (.ints .i64 10))
abbrev B_veilref01_F_Invert : Pt (List Int) := (.ints .i64 10)
def ct_veilref01_F_Invert (N : Nat) : Ct := fct A_veilref01_F_Invert B_veilref01_F_Invert fun x => veilref01_F_Invert N x
def cs_veilref01_F_Invert (N : Nat) : List (FuncId × Ct) := [(23, (ct_veilref01_F_Mul N)), (59, (ct_veilref01_F_ones N))]
def gs_veilref01_F_Invert : List Gv := []
noncomputable def ls_veilref01_F_Invert (N : Nat) : List (Nat × Lf) := []
theorem r_veilref01_F_Invert (N : Nat) : RunIs Tryd.prog (cs_veilref01_F_Invert N) gs_veilref01_F_Invert 0 (ls_veilref01_F_Invert N) Tryd.f24 A_veilref01_F_Invert B_veilref01_F_Invert (fun x => veilref01_F_Invert N x) := by
  intro x; kernel_rfl
theorem s_veilref01_F_Invert {w0 : World} (N : Nat)  (hcs : ∀ x ∈ cs_veilref01_F_Invert N, SoundAt Tryd.prog w0 x.1 x.2) : SoundAt Tryd.prog w0 24 (ct_veilref01_F_Invert N) := by
  exact fn_printed hcs (glob_nil _ _) Tryd.func24 (by kernel_rfl) (by kernel_rfl) (S := 0) (fun w _ => loopsOK_nil _) (fun _ => rfl) (r_veilref01_F_Invert N)
theorem k_veilref01_F_Invert {w0 : World} (N : Nat)  (hg_veilref01_least : GlobOK Tryd.prog w0 gs_veilref01_least) : SoundAt Tryd.prog w0 24 (ct_veilref01_F_Invert N) :=
  s_veilref01_F_Invert N (cs_cons (k_veilref01_F_Mul N hg_veilref01_least) (cs_cons (k_veilref01_F_ones N hg_veilref01_least) cs_nil))

abbrev A_veilref01_F_Abs : Ag (List Int) := (.one (.ints .i64 10))
abbrev B_veilref01_F_Abs : Pt (List Int) := (.ints .i64 10)
def ct_veilref01_F_Abs : Ct := tct A_veilref01_F_Abs B_veilref01_F_Abs fun x => veilref01_F_Abs x
def cs_veilref01_F_Abs : List (FuncId × Ct) := [(43, ct_veilref01_F_Neg)]
def gs_veilref01_F_Abs : List Gv := []
noncomputable def ls_veilref01_F_Abs : List (Nat × Lf) := []
theorem r_veilref01_F_Abs : RunIs Tryd.prog (cs_veilref01_F_Abs) gs_veilref01_F_Abs 0 (ls_veilref01_F_Abs) Tryd.f90 A_veilref01_F_Abs B_veilref01_F_Abs (fun x => veilref01_F_Abs_o x) := by
  intro x; kernel_rfl
theorem s_veilref01_F_Abs {w0 : World}  (hcs : ∀ x ∈ cs_veilref01_F_Abs, SoundAt Tryd.prog w0 x.1 x.2) : SoundAt Tryd.prog w0 90 ct_veilref01_F_Abs := by
  exact sound_tct (fn_printed hcs (glob_nil _ _) Tryd.func90 (by kernel_rfl) (by kernel_rfl) (S := 0) (fun w _ => loopsOK_nil _) (fun _ => rfl) (r_veilref01_F_Abs)) fun _ _ => veilref01_F_Abs_tot _
theorem k_veilref01_F_Abs {w0 : World}  (hg_veilref01_F_Neg : GlobOK Tryd.prog w0 gs_veilref01_F_Neg) : SoundAt Tryd.prog w0 90 ct_veilref01_F_Abs :=
  s_veilref01_F_Abs (cs_cons (k_veilref01_F_Neg hg_veilref01_F_Neg) cs_nil)

abbrev A_veilref01_I : Ag (Unit) := .nil
abbrev B_veilref01_I : Pt (List Int) := (.ints .i64 10)
def ct_veilref01_I : Ct := tct A_veilref01_I B_veilref01_I fun x => veilref01_I
def cs_veilref01_I : List (FuncId × Ct) := []
def gs_veilref01_I : List Gv := []
noncomputable def ls_veilref01_I : List (Nat × Lf) := []
theorem r_veilref01_I : RunIs Tryd.prog (cs_veilref01_I) gs_veilref01_I 0 (ls_veilref01_I) Tryd.f82 A_veilref01_I B_veilref01_I (fun x => some (veilref01_I)) := by
  intro x; kernel_rfl
theorem s_veilref01_I {w0 : World}  (hcs : ∀ x ∈ cs_veilref01_I, SoundAt Tryd.prog w0 x.1 x.2) : SoundAt Tryd.prog w0 82 ct_veilref01_I := by
  exact sound_tct (fn_printed hcs (glob_nil _ _) Tryd.func82 (by kernel_rfl) (by kernel_rfl) (S := 0) (fun w _ => loopsOK_nil _) (fun _ => rfl) (r_veilref01_I)) fun _ _ => rfl
theorem k_veilref01_I {w0 : World}  : SoundAt Tryd.prog w0 82 ct_veilref01_I :=
  s_veilref01_I cs_nil

abbrev A_veilref01_D : Ag (Unit) := .nil
abbrev B_veilref01_D : Pt (List Int) := (.ints .i64 10)
def ct_veilref01_D : Ct := tct A_veilref01_D B_veilref01_D fun x => veilref01_D
def cs_veilref01_D : List (FuncId × Ct) := []
def gs_veilref01_D : List Gv := []
noncomputable def ls_veilref01_D : List (Nat × Lf) := []
theorem r_veilref01_D : RunIs Tryd.prog (cs_veilref01_D) gs_veilref01_D 0 (ls_veilref01_D) Tryd.f62 A_veilref01_D B_veilref01_D (fun x => some (veilref01_D)) := by
  intro x; kernel_rfl
theorem s_veilref01_D {w0 : World}  (hcs : ∀ x ∈ cs_veilref01_D, SoundAt Tryd.prog w0 x.1 x.2) : SoundAt Tryd.prog w0 62 ct_veilref01_D := by
  exact sound_tct (fn_printed hcs (glob_nil _ _) Tryd.func62 (by kernel_rfl) (by kernel_rfl) (S := 0) (fun w _ => loopsOK_nil _) (fun _ => rfl) (r_veilref01_D)) fun _ _ => rfl
theorem k_veilref01_D {w0 : World}  : SoundAt Tryd.prog w0 62 ct_veilref01_D :=
  s_veilref01_D cs_nil

abbrev A_veilref01_root : Ag (List Int) := (.one (.ints .i64 10))
abbrev B_veilref01_root : Pt ((List Int × Bool)) := (.tup (.cons (.ints .i64 10) (.one .bool)))
def ct_veilref01_root (N : Nat) : Ct := fct A_veilref01_root B_veilref01_root fun x => veilref01_root N x
def cs_veilref01_root (N : Nat) : List (FuncId × Ct) := [(23, (ct_veilref01_F_Mul N)), (59, (ct_veilref01_F_ones N)), (82, ct_veilref01_I), (90, ct_veilref01_F_Abs)]
def gs_veilref01_root : List Gv := [⟨4, 46, (.ints .i64 10 [0, 0, 0, 0, 0, 0, 0, 0, 0, 0])⟩]
noncomputable def ls_veilref01_root (N : Nat) : List (Nat × Lf) := []
theorem r_veilref01_root (N : Nat) : RunIs Tryd.prog (cs_veilref01_root N) gs_veilref01_root 0 (ls_veilref01_root N) Tryd.f81 A_veilref01_root B_veilref01_root (fun x => veilref01_root N x) := by
  intro x; kernel_rfl
theorem s_veilref01_root {w0 : World} (N : Nat)  (hcs : ∀ x ∈ cs_veilref01_root N, SoundAt Tryd.prog w0 x.1 x.2) (hg : GlobOK Tryd.prog w0 gs_veilref01_root) : SoundAt Tryd.prog w0 81 (ct_veilref01_root N) := by
  exact fn_printed hcs hg Tryd.func81 (by kernel_rfl) (by kernel_rfl) (S := 0) (fun w _ => loopsOK_nil _) (fun _ => rfl) (r_veilref01_root N)
theorem k_veilref01_root {w0 : World} (N : Nat)  (hg_veilref01_least : GlobOK Tryd.prog w0 gs_veilref01_least) (hg_veilref01_F_Neg : GlobOK Tryd.prog w0 gs_veilref01_F_Neg) (hg_veilref01_root : GlobOK Tryd.prog w0 gs_veilref01_root) : SoundAt Tryd.prog w0 81 (ct_veilref01_root N) :=
  s_veilref01_root N (cs_cons (k_veilref01_F_Mul N hg_veilref01_least) (cs_cons (k_veilref01_F_ones N hg_veilref01_least) (cs_cons (k_veilref01_I) (cs_cons (k_veilref01_F_Abs hg_veilref01_F_Neg) cs_nil)))) hg_veilref01_root

abbrev A_veilref01_SqrtRatio : Ag ((List Int × List Int)) := (.cons (.ints .i64 10) (.one (.ints .i64 10)))
abbrev B_veilref01_SqrtRatio : Pt ((List Int × Bool)) := (.tup (.cons (.ints .i64 10) (.one .bool)))
def ct_veilref01_SqrtRatio (N : Nat) : Ct := fct A_veilref01_SqrtRatio B_veilref01_SqrtRatio fun x => veilref01_SqrtRatio N x.1 x.2
def cs_veilref01_SqrtRatio (N : Nat) : List (FuncId × Ct) := [(23, (ct_veilref01_F_Mul N)), (24, (ct_veilref01_F_Invert N)), (81, (ct_veilref01_root N)), (82, ct_veilref01_I)]
def gs_veilref01_SqrtRatio : List Gv := [⟨4, 46, (.ints .i64 10 [0, 0, 0, 0, 0, 0, 0, 0, 0, 0])⟩]
noncomputable def ls_veilref01_SqrtRatio (N : Nat) : List (Nat × Lf) := []
theorem r_veilref01_SqrtRatio (N : Nat) : RunIs Tryd.prog (cs_veilref01_SqrtRatio N) gs_veilref01_SqrtRatio 0 (ls_veilref01_SqrtRatio N) Tryd.f60 A_veilref01_SqrtRatio B_veilref01_SqrtRatio (fun x => veilref01_SqrtRatio N x.1 x.2) := by
  intro x; kernel_rfl
theorem s_veilref01_SqrtRatio {w0 : World} (N : Nat)  (hcs : ∀ x ∈ cs_veilref01_SqrtRatio N, SoundAt Tryd.prog w0 x.1 x.2) (hg : GlobOK Tryd.prog w0 gs_veilref01_SqrtRatio) : SoundAt Tryd.prog w0 60 (ct_veilref01_SqrtRatio N) := by
  exact fn_printed hcs hg Tryd.func60 (by kernel_rfl) (by kernel_rfl) (S := 0) (fun w _ => loopsOK_nil _) (fun _ => rfl) (r_veilref01_SqrtRatio N)
theorem k_veilref01_SqrtRatio {w0 : World} (N : Nat)  (hg_veilref01_least : GlobOK Tryd.prog w0 gs_veilref01_least) (hg_veilref01_F_Neg : GlobOK Tryd.prog w0 gs_veilref01_F_Neg) (hg_veilref01_root : GlobOK Tryd.prog w0 gs_veilref01_root) (hg_veilref01_SqrtRatio : GlobOK Tryd.prog w0 gs_veilref01_SqrtRatio) : SoundAt Tryd.prog w0 60 (ct_veilref01_SqrtRatio N) :=
  s_veilref01_SqrtRatio N (cs_cons (k_veilref01_F_Mul N hg_veilref01_least) (cs_cons (k_veilref01_F_Invert N hg_veilref01_least) (cs_cons (k_veilref01_root N hg_veilref01_least hg_veilref01_F_Neg hg_veilref01_root) (cs_cons (k_veilref01_I) cs_nil)))) hg_veilref01_SqrtRatio

abbrev A_veilref01_F_Encode : Ag (List Int) := (.one (.ints .i64 10))
abbrev B_veilref01_F_Encode : Pt (List Int) := (.ints .u8 32)
def ct_veilref01_F_Encode (N : Nat) : Ct := fct A_veilref01_F_Encode B_veilref01_F_Encode fun x => veilref01_F_Encode N x
def cs_veilref01_F_Encode (N : Nat) : List (FuncId × Ct) := []
def gs_veilref01_F_Encode : List Gv := []
def veilref01_F_Encode_l0_H : Fm ((Unit × Unit × Unit × Int)) ((List Int × Unit × List Int)) := ⟨(.cons 1 (.lit (.ptr 0 [] 46)) (.cons 2 (.lit (.ptr 1 [] 30)) (.cons 3 (.lit (.ptr 2 [] 30)) (.one 4 (.int .i64))))), (.cons 0 (.ints .i64 10) (.cons 1 (.lit (.ints .u8 32 [0, 0, 0, 0, 0, 0, 0, 0, 0, 0, 0, 0, 0, 0, 0, 0, 0, 0, 0, 0, 0, 0, 0, 0, 0, 0, 0, 0, 0, 0, 0, 0])) (.one 2 (.ints .u8 32))))⟩
def veilref01_F_Encode_l0_O : Fm ((Unit × Unit)) ((Unit × List Int)) := ⟨(.cons 2 (.lit (.ptr 1 [] 30)) (.one 3 (.lit (.ptr 2 [] 30)))), (.cons 1 (.lit (.ints .u8 32 [0, 0, 0, 0, 0, 0, 0, 0, 0, 0, 0, 0, 0, 0, 0, 0, 0, 0, 0, 0, 0, 0, 0, 0, 0, 0, 0, 0, 0, 0, 0, 0])) (.one 2 (.ints .u8 32)))⟩
def veilref01_F_Encode_l0_T : Fm (Unit) (Unit) := ⟨.nil, .nil⟩
noncomputable def ls_veilref01_F_Encode (N : Nat) : List (Nat × Lf) := [(0, loopCt veilref01_F_Encode_l0_H veilref01_F_Encode_l0_O veilref01_F_Encode_l0_T 4 (veilref01_F_Encode_l0 N) N)]
theorem veilref01_F_Encode_l0_step (N : Nat) : StepIs Tryd.prog (cxOf Tryd.f74 (cs_veilref01_F_Encode N) gs_veilref01_F_Encode 0) (ls_veilref01_F_Encode N) Tryd.f74 0 4 veilref01_F_Encode_l0_H veilref01_F_Encode_l0_O veilref01_F_Encode_l0_T (veilref01_F_Encode_l0 N) := by
  intro v; kernel_rfl
theorem r_veilref01_F_Encode (N : Nat) : RunIs Tryd.prog (cs_veilref01_F_Encode N) gs_veilref01_F_Encode 0 (ls_veilref01_F_Encode N) Tryd.f74 A_veilref01_F_Encode B_veilref01_F_Encode (fun x => veilref01_F_Encode N x) := by
  intro x; kernel_rfl
theorem s_veilref01_F_Encode {w0 : World} (N : Nat)  (hcs : ∀ x ∈ cs_veilref01_F_Encode N, SoundAt Tryd.prog w0 x.1 x.2) : SoundAt Tryd.prog w0 74 (ct_veilref01_F_Encode N) := by
  have L0 : ∀ w, RowKit.Below w0.heap.size w0 w → LoopOK Tryd.prog (cxOf Tryd.f74 (cs_veilref01_F_Encode N) gs_veilref01_F_Encode 0) w 0 (.loop (loopBody Tryd.f74 0)) (loopCt veilref01_F_Encode_l0_H veilref01_F_Encode_l0_O veilref01_F_Encode_l0_T 4 (veilref01_F_Encode_l0 N) N) :=
    loop_printed hcs (ls := ls_veilref01_F_Encode N) (n := 100) (by kernel_rfl) (veilref01_F_Encode_l0_step N) N fun w hw => loopsOK_list (lp_no (by kernel_rfl) lp_nil)
  exact fn_printed hcs (glob_nil _ _) Tryd.func74 (by kernel_rfl) (by kernel_rfl) (S := 0) (fun w hw => loopsOK_list (lp_yes (L0 w hw) (by kernel_rfl) lp_nil)) (fun _ => rfl) (r_veilref01_F_Encode N)
theorem k_veilref01_F_Encode {w0 : World} (N : Nat)  : SoundAt Tryd.prog w0 74 (ct_veilref01_F_Encode N) :=
  s_veilref01_F_Encode N cs_nil

abbrev A_veilref01_Number : Ag (((Nat × List Int) × Unit)) := (.one (.tup (.cons (.lst .u8) (.one (.lit (.clo 5 []))))))
abbrev B_veilref01_Number : Pt (List Int) := (.ints .i64 10)
def ct_veilref01_Number (N : Nat) : Ct := fct A_veilref01_Number B_veilref01_Number fun x => veilref01_Number N x
def cs_veilref01_Number (N : Nat) : List (FuncId × Ct) := [(36, (ct_veilref01_least N))]
def gs_veilref01_Number : List Gv := []
def veilref01_Number_l0_H : Fm ((Nat × Unit × Unit × Int)) (((Nat × List Int) × Unit × List Int)) := ⟨(.cons 0 (.slw 0 5) (.cons 2 (.lit (.ptr 1 [] 46)) (.cons 3 (.lit (.ptr 2 [] 77)) (.one 4 (.int .i64))))), (.cons 0 (.lst .u8) (.cons 1 (.lit (.ints .i64 10 [0, 0, 0, 0, 0, 0, 0, 0, 0, 0])) (.one 2 (.ints .i64 20))))⟩
def veilref01_Number_l0_O : Fm ((Unit × Unit)) ((Unit × List Int)) := ⟨(.cons 2 (.lit (.ptr 1 [] 46)) (.one 3 (.lit (.ptr 2 [] 77)))), (.cons 1 (.lit (.ints .i64 10 [0, 0, 0, 0, 0, 0, 0, 0, 0, 0])) (.one 2 (.ints .i64 20)))⟩
def veilref01_Number_l0_T : Fm (Unit) (Unit) := ⟨.nil, .nil⟩
noncomputable def ls_veilref01_Number (N : Nat) : List (Nat × Lf) := [(0, loopCt veilref01_Number_l0_H veilref01_Number_l0_O veilref01_Number_l0_T 4 (veilref01_Number_l0 N) N)]
theorem veilref01_Number_l0_step (N : Nat) : StepIs Tryd.prog (cxOf Tryd.f73 (cs_veilref01_Number N) gs_veilref01_Number 1) (ls_veilref01_Number N) Tryd.f73 0 4 veilref01_Number_l0_H veilref01_Number_l0_O veilref01_Number_l0_T (veilref01_Number_l0 N) := by
  intro v; kernel_rfl
theorem r_veilref01_Number (N : Nat) : RunIs Tryd.prog (cs_veilref01_Number N) gs_veilref01_Number 1 (ls_veilref01_Number N) Tryd.f73 A_veilref01_Number B_veilref01_Number (fun x => veilref01_Number N x) := by
  intro x; kernel_rfl
theorem s_veilref01_Number {w0 : World} (N : Nat)  (hcs : ∀ x ∈ cs_veilref01_Number N, SoundAt Tryd.prog w0 x.1 x.2) : SoundAt Tryd.prog w0 73 (ct_veilref01_Number N) := by
  have L0 : ∀ w, RowKit.Below w0.heap.size w0 w → LoopOK Tryd.prog (cxOf Tryd.f73 (cs_veilref01_Number N) gs_veilref01_Number 1) w 0 (.loop (loopBody Tryd.f73 0)) (loopCt veilref01_Number_l0_H veilref01_Number_l0_O veilref01_Number_l0_T 4 (veilref01_Number_l0 N) N) :=
    loop_printed hcs (ls := ls_veilref01_Number N) (n := 100) (by kernel_rfl) (veilref01_Number_l0_step N) N fun w hw => loopsOK_list (lp_no (by kernel_rfl) lp_nil)
  exact fn_printed hcs (glob_nil _ _) Tryd.func73 (by kernel_rfl) (by kernel_rfl) (S := 1) (fun w hw => loopsOK_list (lp_yes (L0 w hw) (by kernel_rfl) lp_nil)) (fun _ => rfl) (r_veilref01_Number N)
theorem k_veilref01_Number {w0 : World} (N : Nat)  (hg_veilref01_least : GlobOK Tryd.prog w0 gs_veilref01_least) : SoundAt Tryd.prog w0 73 (ct_veilref01_Number N) :=
  s_veilref01_Number N (cs_cons (k_veilref01_least N hg_veilref01_least) cs_nil)

abbrev A_veilref01_Decode : Ag (List Int) := (.one (.ints .u8 32))
abbrev B_veilref01_Decode : Pt ((List Int × Int)) := (.tup (.cons (.ints .i64 10) (.one (.int .i64))))
def ct_veilref01_Decode (N : Nat) : Ct := fct A_veilref01_Decode B_veilref01_Decode fun x => veilref01_Decode N x
def cs_veilref01_Decode (N : Nat) : List (FuncId × Ct) := [(73, (ct_veilref01_Number N)), (74, (ct_veilref01_F_Encode N))]
def gs_veilref01_Decode : List Gv := []
noncomputable def ls_veilref01_Decode (N : Nat) : List (Nat × Lf) := []
theorem r_veilref01_Decode (N : Nat) : RunIs Tryd.prog (cs_veilref01_Decode N) gs_veilref01_Decode 0 (ls_veilref01_Decode N) Tryd.f42 A_veilref01_Decode B_veilref01_Decode (fun x => veilref01_Decode N x) := by
  intro x; kernel_rfl
theorem s_veilref01_Decode {w0 : World} (N : Nat)  (hcs : ∀ x ∈ cs_veilref01_Decode N, SoundAt Tryd.prog w0 x.1 x.2) : SoundAt Tryd.prog w0 42 (ct_veilref01_Decode N) := by
  exact fn_printed hcs (glob_nil _ _) Tryd.func42 (by kernel_rfl) (by kernel_rfl) (S := 0) (fun w _ => loopsOK_nil _) (fun _ => rfl) (r_veilref01_Decode N)
theorem k_veilref01_Decode {w0 : World} (N : Nat)  (hg_veilref01_least : GlobOK Tryd.prog w0 gs_veilref01_least) : SoundAt Tryd.prog w0 42 (ct_veilref01_Decode N) :=
  s_veilref01_Decode N (cs_cons (k_veilref01_Number N hg_veilref01_least) (cs_cons (k_veilref01_F_Encode N) cs_nil))

abbrev A_veilref01_F_Limbs : Ag (List Int) := (.one (.ints .i64 10))
abbrev B_veilref01_F_Limbs : Pt (List Int) := (.ints .u64 5)
def ct_veilref01_F_Limbs (N : Nat) : Ct := fct A_veilref01_F_Limbs B_veilref01_F_Limbs fun x => veilref01_F_Limbs N x
def cs_veilref01_F_Limbs (N : Nat) : List (FuncId × Ct) := []
def gs_veilref01_F_Limbs : List Gv := []
def veilref01_F_Limbs_l0_H : Fm ((Unit × Unit × Unit × Int)) ((List Int × Unit × List Int)) := ⟨(.cons 1 (.lit (.ptr 0 [] 46)) (.cons 2 (.lit (.ptr 1 [] 34)) (.cons 3 (.lit (.ptr 2 [] 34)) (.one 4 (.int .i64))))), (.cons 0 (.ints .i64 10) (.cons 1 (.lit (.ints .u64 5 [0, 0, 0, 0, 0])) (.one 2 (.ints .u64 5))))⟩
def veilref01_F_Limbs_l0_O : Fm ((Unit × Unit)) ((Unit × List Int)) := ⟨(.cons 2 (.lit (.ptr 1 [] 34)) (.one 3 (.lit (.ptr 2 [] 34)))), (.cons 1 (.lit (.ints .u64 5 [0, 0, 0, 0, 0])) (.one 2 (.ints .u64 5)))⟩
def veilref01_F_Limbs_l0_T : Fm (Unit) (Unit) := ⟨.nil, .nil⟩
noncomputable def ls_veilref01_F_Limbs (N : Nat) : List (Nat × Lf) := [(0, loopCt veilref01_F_Limbs_l0_H veilref01_F_Limbs_l0_O veilref01_F_Limbs_l0_T 4 (veilref01_F_Limbs_l0 N) N)]
theorem veilref01_F_Limbs_l0_step (N : Nat) : StepIs Tryd.prog (cxOf Tryd.f21 (cs_veilref01_F_Limbs N) gs_veilref01_F_Limbs 0) (ls_veilref01_F_Limbs N) Tryd.f21 0 4 veilref01_F_Limbs_l0_H veilref01_F_Limbs_l0_O veilref01_F_Limbs_l0_T (veilref01_F_Limbs_l0 N) := by
  intro v; kernel_rfl
theorem r_veilref01_F_Limbs (N : Nat) : RunIs Tryd.prog (cs_veilref01_F_Limbs N) gs_veilref01_F_Limbs 0 (ls_veilref01_F_Limbs N) Tryd.f21 A_veilref01_F_Limbs B_veilref01_F_Limbs (fun x => veilref01_F_Limbs N x) := by
  intro x; kernel_rfl
theorem s_veilref01_F_Limbs {w0 : World} (N : Nat)  (hcs : ∀ x ∈ cs_veilref01_F_Limbs N, SoundAt Tryd.prog w0 x.1 x.2) : SoundAt Tryd.prog w0 21 (ct_veilref01_F_Limbs N) := by
  have L0 : ∀ w, RowKit.Below w0.heap.size w0 w → LoopOK Tryd.prog (cxOf Tryd.f21 (cs_veilref01_F_Limbs N) gs_veilref01_F_Limbs 0) w 0 (.loop (loopBody Tryd.f21 0)) (loopCt veilref01_F_Limbs_l0_H veilref01_F_Limbs_l0_O veilref01_F_Limbs_l0_T 4 (veilref01_F_Limbs_l0 N) N) :=
    loop_printed hcs (ls := ls_veilref01_F_Limbs N) (n := 100) (by kernel_rfl) (veilref01_F_Limbs_l0_step N) N fun w hw => loopsOK_list (lp_no (by kernel_rfl) lp_nil)
  exact fn_printed hcs (glob_nil _ _) Tryd.func21 (by kernel_rfl) (by kernel_rfl) (S := 0) (fun w hw => loopsOK_list (lp_yes (L0 w hw) (by kernel_rfl) lp_nil)) (fun _ => rfl) (r_veilref01_F_Limbs N)
theorem k_veilref01_F_Limbs {w0 : World} (N : Nat)  : SoundAt Tryd.prog w0 21 (ct_veilref01_F_Limbs N) :=
  s_veilref01_F_Limbs N cs_nil

abbrev A_veilref04_Neutral : Ag (Unit) := .nil
abbrev B_veilref04_Neutral : Pt ((List Int × List Int)) := (.agg (.cons (.ints .i64 10) (.one (.ints .i64 10))))
def ct_veilref04_Neutral : Ct := tct A_veilref04_Neutral B_veilref04_Neutral fun x => veilref04_Neutral
def cs_veilref04_Neutral : List (FuncId × Ct) := []
def gs_veilref04_Neutral : List Gv := [⟨1, 46, (.ints .i64 10 [1, 0, 0, 0, 0, 0, 0, 0, 0, 0])⟩]
noncomputable def ls_veilref04_Neutral : List (Nat × Lf) := []
theorem r_veilref04_Neutral : RunIs Tryd.prog (cs_veilref04_Neutral) gs_veilref04_Neutral 0 (ls_veilref04_Neutral) Tryd.f11 A_veilref04_Neutral B_veilref04_Neutral (fun x => some (veilref04_Neutral)) := by
  intro x; kernel_rfl
theorem s_veilref04_Neutral {w0 : World}  (hcs : ∀ x ∈ cs_veilref04_Neutral, SoundAt Tryd.prog w0 x.1 x.2) (hg : GlobOK Tryd.prog w0 gs_veilref04_Neutral) : SoundAt Tryd.prog w0 11 ct_veilref04_Neutral := by
  exact sound_tct (fn_printed hcs hg Tryd.func11 (by kernel_rfl) (by kernel_rfl) (S := 0) (fun w _ => loopsOK_nil _) (fun _ => rfl) (r_veilref04_Neutral)) fun _ _ => rfl
theorem k_veilref04_Neutral {w0 : World}  (hg_veilref04_Neutral : GlobOK Tryd.prog w0 gs_veilref04_Neutral) : SoundAt Tryd.prog w0 11 ct_veilref04_Neutral :=
  s_veilref04_Neutral cs_nil hg_veilref04_Neutral

abbrev A_veilref04_Point_Add : Ag (((List Int × List Int) × (List Int × List Int))) := (.cons (.agg (.cons (.ints .i64 10) (.one (.ints .i64 10)))) (.one (.agg (.cons (.ints .i64 10) (.one (.ints .i64 10))))))
abbrev B_veilref04_Point_Add : Pt ((List Int × List Int)) := (.agg (.cons (.ints .i64 10) (.one (.ints .i64 10))))
def ct_veilref04_Point_Add (N : Nat) : Ct := fct A_veilref04_Point_Add B_veilref04_Point_Add fun x => veilref04_Point_Add N x.1 x.2
def cs_veilref04_Point_Add (N : Nat) : List (FuncId × Ct) := [(23, (ct_veilref01_F_Mul N)), (24, (ct_veilref01_F_Invert N)), (61, (ct_veilref01_F_Sub N)), (62, ct_veilref01_D), (63, (ct_veilref01_F_Add N))]
def gs_veilref04_Point_Add : List Gv := [⟨1, 46, (.ints .i64 10 [1, 0, 0, 0, 0, 0, 0, 0, 0, 0])⟩]
noncomputable def ls_veilref04_Point_Add (N : Nat) : List (Nat × Lf) := []
theorem r_veilref04_Point_Add (N : Nat) : RunIs Tryd.prog (cs_veilref04_Point_Add N) gs_veilref04_Point_Add 0 (ls_veilref04_Point_Add N) Tryd.f27 A_veilref04_Point_Add B_veilref04_Point_Add (fun x => veilref04_Point_Add N x.1 x.2) := by
  intro x; kernel_rfl
theorem s_veilref04_Point_Add {w0 : World} (N : Nat)  (hcs : ∀ x ∈ cs_veilref04_Point_Add N, SoundAt Tryd.prog w0 x.1 x.2) (hg : GlobOK Tryd.prog w0 gs_veilref04_Point_Add) : SoundAt Tryd.prog w0 27 (ct_veilref04_Point_Add N) := by
  exact fn_printed hcs hg Tryd.func27 (by kernel_rfl) (by kernel_rfl) (S := 0) (fun w _ => loopsOK_nil _) (fun _ => rfl) (r_veilref04_Point_Add N)
theorem k_veilref04_Point_Add {w0 : World} (N : Nat)  (hg_veilref01_least : GlobOK Tryd.prog w0 gs_veilref01_least) (hg_veilref01_F_Neg : GlobOK Tryd.prog w0 gs_veilref01_F_Neg) (hg_veilref04_Point_Add : GlobOK Tryd.prog w0 gs_veilref04_Point_Add) : SoundAt Tryd.prog w0 27 (ct_veilref04_Point_Add N) :=
  s_veilref04_Point_Add N (cs_cons (k_veilref01_F_Mul N hg_veilref01_least) (cs_cons (k_veilref01_F_Invert N hg_veilref01_least) (cs_cons (k_veilref01_F_Sub N hg_veilref01_F_Neg hg_veilref01_least) (cs_cons (k_veilref01_D) (cs_cons (k_veilref01_F_Add N hg_veilref01_least) cs_nil))))) hg_veilref04_Point_Add

abbrev A_veilref04_XOf : Ag (List Int) := (.one (.ints .i64 10))
abbrev B_veilref04_XOf : Pt ((List Int × Bool)) := (.tup (.cons (.ints .i64 10) (.one .bool)))
def ct_veilref04_XOf (N : Nat) : Ct := fct A_veilref04_XOf B_veilref04_XOf fun x => veilref04_XOf N x
def cs_veilref04_XOf (N : Nat) : List (FuncId × Ct) := [(23, (ct_veilref01_F_Mul N)), (60, (ct_veilref01_SqrtRatio N)), (61, (ct_veilref01_F_Sub N)), (62, ct_veilref01_D), (63, (ct_veilref01_F_Add N))]
def gs_veilref04_XOf : List Gv := [⟨1, 46, (.ints .i64 10 [1, 0, 0, 0, 0, 0, 0, 0, 0, 0])⟩]
noncomputable def ls_veilref04_XOf (N : Nat) : List (Nat × Lf) := []
theorem r_veilref04_XOf (N : Nat) : RunIs Tryd.prog (cs_veilref04_XOf N) gs_veilref04_XOf 0 (ls_veilref04_XOf N) Tryd.f25 A_veilref04_XOf B_veilref04_XOf (fun x => veilref04_XOf N x) := by
  intro x; kernel_rfl
theorem s_veilref04_XOf {w0 : World} (N : Nat)  (hcs : ∀ x ∈ cs_veilref04_XOf N, SoundAt Tryd.prog w0 x.1 x.2) (hg : GlobOK Tryd.prog w0 gs_veilref04_XOf) : SoundAt Tryd.prog w0 25 (ct_veilref04_XOf N) := by
  exact fn_printed hcs hg Tryd.func25 (by kernel_rfl) (by kernel_rfl) (S := 0) (fun w _ => loopsOK_nil _) (fun _ => rfl) (r_veilref04_XOf N)
theorem k_veilref04_XOf {w0 : World} (N : Nat)  (hg_veilref01_least : GlobOK Tryd.prog w0 gs_veilref01_least) (hg_veilref01_F_Neg : GlobOK Tryd.prog w0 gs_veilref01_F_Neg) (hg_veilref01_root : GlobOK Tryd.prog w0 gs_veilref01_root) (hg_veilref01_SqrtRatio : GlobOK Tryd.prog w0 gs_veilref01_SqrtRatio) (hg_veilref04_XOf : GlobOK Tryd.prog w0 gs_veilref04_XOf) : SoundAt Tryd.prog w0 25 (ct_veilref04_XOf N) :=
  s_veilref04_XOf N (cs_cons (k_veilref01_F_Mul N hg_veilref01_least) (cs_cons (k_veilref01_SqrtRatio N hg_veilref01_least hg_veilref01_F_Neg hg_veilref01_root hg_veilref01_SqrtRatio) (cs_cons (k_veilref01_F_Sub N hg_veilref01_F_Neg hg_veilref01_least) (cs_cons (k_veilref01_D) (cs_cons (k_veilref01_F_Add N hg_veilref01_least) cs_nil))))) hg_veilref04_XOf

abbrev A_veilref04_Base : Ag (Unit) := .nil
abbrev B_veilref04_Base : Pt ((List Int × List Int)) := (.agg (.cons (.ints .i64 10) (.one (.ints .i64 10))))
def ct_veilref04_Base (N : Nat) : Ct := fct A_veilref04_Base B_veilref04_Base fun x => veilref04_Base N
def cs_veilref04_Base (N : Nat) : List (FuncId × Ct) := [(22, (ct_veilref01_Small N)), (23, (ct_veilref01_F_Mul N)), (24, (ct_veilref01_F_Invert N)), (25, (ct_veilref04_XOf N))]
def gs_veilref04_Base : List Gv := []
noncomputable def ls_veilref04_Base (N : Nat) : List (Nat × Lf) := []
theorem r_veilref04_Base (N : Nat) : RunIs Tryd.prog (cs_veilref04_Base N) gs_veilref04_Base 0 (ls_veilref04_Base N) Tryd.f10 A_veilref04_Base B_veilref04_Base (fun x => veilref04_Base N) := by
  intro x; kernel_rfl
theorem s_veilref04_Base {w0 : World} (N : Nat)  (hcs : ∀ x ∈ cs_veilref04_Base N, SoundAt Tryd.prog w0 x.1 x.2) : SoundAt Tryd.prog w0 10 (ct_veilref04_Base N) := by
  exact fn_printed hcs (glob_nil _ _) Tryd.func10 (by kernel_rfl) (by kernel_rfl) (S := 0) (fun w _ => loopsOK_nil _) (fun _ => rfl) (r_veilref04_Base N)
theorem k_veilref04_Base {w0 : World} (N : Nat)  (hg_veilref01_least : GlobOK Tryd.prog w0 gs_veilref01_least) (hg_veilref01_F_Neg : GlobOK Tryd.prog w0 gs_veilref01_F_Neg) (hg_veilref01_root : GlobOK Tryd.prog w0 gs_veilref01_root) (hg_veilref01_SqrtRatio : GlobOK Tryd.prog w0 gs_veilref01_SqrtRatio) (hg_veilref04_XOf : GlobOK Tryd.prog w0 gs_veilref04_XOf) : SoundAt Tryd.prog w0 10 (ct_veilref04_Base N) :=
  s_veilref04_Base N (cs_cons (k_veilref01_Small N hg_veilref01_least) (cs_cons (k_veilref01_F_Mul N hg_veilref01_least) (cs_cons (k_veilref01_F_Invert N hg_veilref01_least) (cs_cons (k_veilref04_XOf N hg_veilref01_least hg_veilref01_F_Neg hg_veilref01_root hg_veilref01_SqrtRatio hg_veilref04_XOf) cs_nil))))

abbrev A_veilref04_Torsion : Ag (Int) := (.one (.int .i64))
abbrev B_veilref04_Torsion : Pt ((List Int × List Int)) := (.agg (.cons (.ints .i64 10) (.one (.ints .i64 10))))
def ct_veilref04_Torsion (N : Nat) : Ct := fct A_veilref04_Torsion B_veilref04_Torsion fun x => veilref04_Torsion N x
def cs_veilref04_Torsion (N : Nat) : List (FuncId × Ct) := [(11, ct_veilref04_Neutral), (22, (ct_veilref01_Small N)), (23, (ct_veilref01_F_Mul N)), (27, (ct_veilref04_Point_Add N)), (63, (ct_veilref01_F_Add N))]
def gs_veilref04_Torsion : List Gv := [⟨4, 46, (.ints .i64 10 [0, 0, 0, 0, 0, 0, 0, 0, 0, 0])⟩]
noncomputable def is_veilref04_Torsion (N : Nat) : List (FuncId × Inl) := ((26, inlOf Tryd.prog (cs_veilref04_Torsion N) gs_veilref04_Torsion 0 100 [] Tryd.f26) :: [])
theorem isok_veilref04_Torsion (N : Nat) : InlAll Tryd.prog (cs_veilref04_Torsion N) gs_veilref04_Torsion 0 100 (is_veilref04_Torsion N) := ⟨⟨Tryd.f26, Tryd.func26, by kernel_rfl, by kernel_rfl, rfl⟩, trivial⟩
def veilref04_Torsion_l0_H : Fm ((Int × Unit × Unit × Unit × Int)) ((Unit × Unit × (List Int × List Int) × (List Int × List Int))) := ⟨(.cons 0 (.int .i64) (.cons 2 (.lit (.ptr 1 [] 48)) (.cons 3 (.lit (.ptr 2797 [] 48)) (.cons 4 (.lit (.ptr 2800 [] 48)) (.one 5 (.int .i64)))))), (.cons 0 (.lit (.ints .i64 10 [0, 0, 0, 0, 0, 0, 0, 0, 0, 0])) (.cons 1 (.lit (.agg [(.ints .i64 10 [0, 0, 0, 0, 0, 0, 0, 0, 0, 0]), (.ints .i64 10 [0, 0, 0, 0, 0, 0, 0, 0, 0, 0])])) (.cons 2797 (.agg (.cons (.ints .i64 10) (.one (.ints .i64 10)))) (.one 2800 (.agg (.cons (.ints .i64 10) (.one (.ints .i64 10))))))))⟩
def veilref04_Torsion_l0_O : Fm ((Unit × Unit)) ((Unit × Unit × (List Int × List Int))) := ⟨(.cons 2 (.lit (.ptr 1 [] 48)) (.one 4 (.lit (.ptr 2800 [] 48)))), (.cons 0 (.lit (.ints .i64 10 [0, 0, 0, 0, 0, 0, 0, 0, 0, 0])) (.cons 1 (.lit (.agg [(.ints .i64 10 [0, 0, 0, 0, 0, 0, 0, 0, 0, 0]), (.ints .i64 10 [0, 0, 0, 0, 0, 0, 0, 0, 0, 0])])) (.one 2800 (.agg (.cons (.ints .i64 10) (.one (.ints .i64 10)))))))⟩
def veilref04_Torsion_l0_T : Fm (Unit) (Unit) := ⟨.nil, .nil⟩
noncomputable def ls_veilref04_Torsion (N : Nat) : List (Nat × Lf) := [(0, loopCt veilref04_Torsion_l0_H veilref04_Torsion_l0_O veilref04_Torsion_l0_T 2803 (veilref04_Torsion_l0 N) N)]
theorem veilref04_Torsion_l0_step (N : Nat) : StepIs Tryd.prog (cxIn Tryd.f13 (cs_veilref04_Torsion N) gs_veilref04_Torsion 0 (is_veilref04_Torsion N)) (ls_veilref04_Torsion N) Tryd.f13 0 2803 veilref04_Torsion_l0_H veilref04_Torsion_l0_O veilref04_Torsion_l0_T (veilref04_Torsion_l0 N) := by
  intro v; kernel_rfl
theorem r_veilref04_Torsion (N : Nat) : RunIs Tryd.prog (cs_veilref04_Torsion N) gs_veilref04_Torsion 0 (ls_veilref04_Torsion N) Tryd.f13 A_veilref04_Torsion B_veilref04_Torsion (fun x => veilref04_Torsion N x) (fun g => lkI g (is_veilref04_Torsion N)) := by
  intro x; kernel_rfl
theorem s_veilref04_Torsion {w0 : World} (N : Nat)  (hcs : ∀ x ∈ cs_veilref04_Torsion N, SoundAt Tryd.prog w0 x.1 x.2) (hg : GlobOK Tryd.prog w0 gs_veilref04_Torsion) : SoundAt Tryd.prog w0 13 (ct_veilref04_Torsion N) := by
  have L0 : ∀ w, RowKit.Below w0.heap.size w0 w → LoopOK Tryd.prog (cxIn Tryd.f13 (cs_veilref04_Torsion N) gs_veilref04_Torsion 0 (is_veilref04_Torsion N)) w 0 (.loop (loopBody Tryd.f13 0)) (loopCt veilref04_Torsion_l0_H veilref04_Torsion_l0_O veilref04_Torsion_l0_T 2803 (veilref04_Torsion_l0 N) N) :=
    loop_printedI hcs (isok_veilref04_Torsion N) (ls := ls_veilref04_Torsion N) (n := 100) (by kernel_rfl) (veilref04_Torsion_l0_step N) N fun w hw => loopsOK_list (lp_no (by kernel_rfl) lp_nil)
  exact fn_printedI hcs hg (isok_veilref04_Torsion N) Tryd.func13 (by kernel_rfl) (by kernel_rfl) (S := 0) (fun w hw => loopsOK_list (lp_yes (L0 w hw) (by kernel_rfl) lp_nil)) (fun _ => rfl) (r_veilref04_Torsion N)
theorem k_veilref04_Torsion {w0 : World} (N : Nat)  (hg_veilref04_Neutral : GlobOK Tryd.prog w0 gs_veilref04_Neutral) (hg_veilref01_least : GlobOK Tryd.prog w0 gs_veilref01_least) (hg_veilref01_F_Neg : GlobOK Tryd.prog w0 gs_veilref01_F_Neg) (hg_veilref04_Point_Add : GlobOK Tryd.prog w0 gs_veilref04_Point_Add) (hg_veilref04_Torsion : GlobOK Tryd.prog w0 gs_veilref04_Torsion) : SoundAt Tryd.prog w0 13 (ct_veilref04_Torsion N) :=
  s_veilref04_Torsion N (cs_cons (k_veilref04_Neutral hg_veilref04_Neutral) (cs_cons (k_veilref01_Small N hg_veilref01_least) (cs_cons (k_veilref01_F_Mul N hg_veilref01_least) (cs_cons (k_veilref04_Point_Add N hg_veilref01_least hg_veilref01_F_Neg hg_veilref04_Point_Add) (cs_cons (k_veilref01_F_Add N hg_veilref01_least) cs_nil))))) hg_veilref04_Torsion

abbrev A_veilref04_On : Ag ((List Int × List Int)) := (.cons (.ints .i64 10) (.one (.ints .i64 10)))
abbrev B_veilref04_On : Pt (Bool) := .bool
def ct_veilref04_On (N : Nat) : Ct := fct A_veilref04_On B_veilref04_On fun x => veilref04_On N x.1 x.2
def cs_veilref04_On (N : Nat) : List (FuncId × Ct) := [(23, (ct_veilref01_F_Mul N)), (61, (ct_veilref01_F_Sub N)), (62, ct_veilref01_D), (63, (ct_veilref01_F_Add N))]
def gs_veilref04_On : List Gv := [⟨1, 46, (.ints .i64 10 [1, 0, 0, 0, 0, 0, 0, 0, 0, 0])⟩]
noncomputable def ls_veilref04_On (N : Nat) : List (Nat × Lf) := []
theorem r_veilref04_On (N : Nat) : RunIs Tryd.prog (cs_veilref04_On N) gs_veilref04_On 0 (ls_veilref04_On N) Tryd.f35 A_veilref04_On B_veilref04_On (fun x => veilref04_On N x.1 x.2) := by
  intro x; kernel_rfl
theorem s_veilref04_On {w0 : World} (N : Nat)  (hcs : ∀ x ∈ cs_veilref04_On N, SoundAt Tryd.prog w0 x.1 x.2) (hg : GlobOK Tryd.prog w0 gs_veilref04_On) : SoundAt Tryd.prog w0 35 (ct_veilref04_On N) := by
  exact fn_printed hcs hg Tryd.func35 (by kernel_rfl) (by kernel_rfl) (S := 0) (fun w _ => loopsOK_nil _) (fun _ => rfl) (r_veilref04_On N)
theorem k_veilref04_On {w0 : World} (N : Nat)  (hg_veilref01_least : GlobOK Tryd.prog w0 gs_veilref01_least) (hg_veilref01_F_Neg : GlobOK Tryd.prog w0 gs_veilref01_F_Neg) (hg_veilref04_On : GlobOK Tryd.prog w0 gs_veilref04_On) : SoundAt Tryd.prog w0 35 (ct_veilref04_On N) :=
  s_veilref04_On N (cs_cons (k_veilref01_F_Mul N hg_veilref01_least) (cs_cons (k_veilref01_F_Sub N hg_veilref01_F_Neg hg_veilref01_least) (cs_cons (k_veilref01_D) (cs_cons (k_veilref01_F_Add N hg_veilref01_least) cs_nil)))) hg_veilref04_On

abbrev A_veilref04_FromAffine : Ag ((List Int × List Int)) := (.cons (.ints .i64 10) (.one (.ints .i64 10)))
abbrev B_veilref04_FromAffine : Pt (((List Int × List Int) × Int)) := (.tup (.cons (.agg (.cons (.ints .i64 10) (.one (.ints .i64 10)))) (.one (.int .i64))))
def ct_veilref04_FromAffine (N : Nat) : Ct := fct A_veilref04_FromAffine B_veilref04_FromAffine fun x => veilref04_FromAffine N x.1 x.2
def cs_veilref04_FromAffine (N : Nat) : List (FuncId × Ct) := [(11, ct_veilref04_Neutral), (35, (ct_veilref04_On N))]
def gs_veilref04_FromAffine : List Gv := []
noncomputable def ls_veilref04_FromAffine (N : Nat) : List (Nat × Lf) := []
theorem r_veilref04_FromAffine (N : Nat) : RunIs Tryd.prog (cs_veilref04_FromAffine N) gs_veilref04_FromAffine 0 (ls_veilref04_FromAffine N) Tryd.f15 A_veilref04_FromAffine B_veilref04_FromAffine (fun x => veilref04_FromAffine N x.1 x.2) := by
  intro x; kernel_rfl
theorem s_veilref04_FromAffine {w0 : World} (N : Nat)  (hcs : ∀ x ∈ cs_veilref04_FromAffine N, SoundAt Tryd.prog w0 x.1 x.2) : SoundAt Tryd.prog w0 15 (ct_veilref04_FromAffine N) := by
  exact fn_printed hcs (glob_nil _ _) Tryd.func15 (by kernel_rfl) (by kernel_rfl) (S := 0) (fun w _ => loopsOK_nil _) (fun _ => rfl) (r_veilref04_FromAffine N)
theorem k_veilref04_FromAffine {w0 : World} (N : Nat)  (hg_veilref04_Neutral : GlobOK Tryd.prog w0 gs_veilref04_Neutral) (hg_veilref01_least : GlobOK Tryd.prog w0 gs_veilref01_least) (hg_veilref01_F_Neg : GlobOK Tryd.prog w0 gs_veilref01_F_Neg) (hg_veilref04_On : GlobOK Tryd.prog w0 gs_veilref04_On) : SoundAt Tryd.prog w0 15 (ct_veilref04_FromAffine N) :=
  s_veilref04_FromAffine N (cs_cons (k_veilref04_Neutral hg_veilref04_Neutral) (cs_cons (k_veilref04_On N hg_veilref01_least hg_veilref01_F_Neg hg_veilref04_On) cs_nil))

abbrev A_veilref04_Decompress : Ag (List Int) := (.one (.ints .u8 32))
abbrev B_veilref04_Decompress : Pt (((List Int × List Int) × Int)) := (.tup (.cons (.agg (.cons (.ints .i64 10) (.one (.ints .i64 10)))) (.one (.int .i64))))
def ct_veilref04_Decompress (N : Nat) : Ct := fct A_veilref04_Decompress B_veilref04_Decompress fun x => veilref04_Decompress N x
def cs_veilref04_Decompress (N : Nat) : List (FuncId × Ct) := [(11, ct_veilref04_Neutral), (25, (ct_veilref04_XOf N)), (42, (ct_veilref01_Decode N)), (43, ct_veilref01_F_Neg)]
def gs_veilref04_Decompress : List Gv := [⟨4, 46, (.ints .i64 10 [0, 0, 0, 0, 0, 0, 0, 0, 0, 0])⟩]
noncomputable def ls_veilref04_Decompress (N : Nat) : List (Nat × Lf) := []
theorem r_veilref04_Decompress (N : Nat) : RunIs Tryd.prog (cs_veilref04_Decompress N) gs_veilref04_Decompress 0 (ls_veilref04_Decompress N) Tryd.f18 A_veilref04_Decompress B_veilref04_Decompress (fun x => veilref04_Decompress N x) := by
  intro x; kernel_rfl
theorem s_veilref04_Decompress {w0 : World} (N : Nat)  (hcs : ∀ x ∈ cs_veilref04_Decompress N, SoundAt Tryd.prog w0 x.1 x.2) (hg : GlobOK Tryd.prog w0 gs_veilref04_Decompress) : SoundAt Tryd.prog w0 18 (ct_veilref04_Decompress N) := by
  exact fn_printed hcs hg Tryd.func18 (by kernel_rfl) (by kernel_rfl) (S := 0) (fun w _ => loopsOK_nil _) (fun _ => rfl) (r_veilref04_Decompress N)
theorem k_veilref04_Decompress {w0 : World} (N : Nat)  (hg_veilref04_Neutral : GlobOK Tryd.prog w0 gs_veilref04_Neutral) (hg_veilref01_least : GlobOK Tryd.prog w0 gs_veilref01_least) (hg_veilref01_F_Neg : GlobOK Tryd.prog w0 gs_veilref01_F_Neg) (hg_veilref01_root : GlobOK Tryd.prog w0 gs_veilref01_root) (hg_veilref01_SqrtRatio : GlobOK Tryd.prog w0 gs_veilref01_SqrtRatio) (hg_veilref04_XOf : GlobOK Tryd.prog w0 gs_veilref04_XOf) (hg_veilref04_Decompress : GlobOK Tryd.prog w0 gs_veilref04_Decompress) : SoundAt Tryd.prog w0 18 (ct_veilref04_Decompress N) :=
  s_veilref04_Decompress N (cs_cons (k_veilref04_Neutral hg_veilref04_Neutral) (cs_cons (k_veilref04_XOf N hg_veilref01_least hg_veilref01_F_Neg hg_veilref01_root hg_veilref01_SqrtRatio hg_veilref04_XOf) (cs_cons (k_veilref01_Decode N hg_veilref01_least) (cs_cons (k_veilref01_F_Neg hg_veilref01_F_Neg) cs_nil)))) hg_veilref04_Decompress

abbrev A_veillaw04_coords : Ag (((List Int × List Int × List Int × List Int) × (List Int × List Int))) := (.cons (.agg (.one (.agg (.cons (.ints .u64 5) (.cons (.ints .u64 5) (.cons (.ints .u64 5) (.one (.ints .u64 5)))))))) (.one (.agg (.cons (.ints .i64 10) (.one (.ints .i64 10))))))
abbrev B_veillaw04_coords : Pt (Bool) := .bool
def ct_veillaw04_coords (N : Nat) : Ct := fct A_veillaw04_coords B_veillaw04_coords fun x => veillaw04_coords N x.1 x.2
def cs_veillaw04_coords (N : Nat) : List (FuncId × Ct) := [(20, (ct_curve_Point_Affine N)), (21, (ct_veilref01_F_Limbs N))]
def gs_veillaw04_coords : List Gv := []
noncomputable def ls_veillaw04_coords (N : Nat) : List (Nat × Lf) := []
theorem r_veillaw04_coords (N : Nat) : RunIs Tryd.prog (cs_veillaw04_coords N) gs_veillaw04_coords 0 (ls_veillaw04_coords N) Tryd.f8 A_veillaw04_coords B_veillaw04_coords (fun x => veillaw04_coords N x.1 x.2) := by
  intro x; kernel_rfl
theorem s_veillaw04_coords {w0 : World} (N : Nat)  (hcs : ∀ x ∈ cs_veillaw04_coords N, SoundAt Tryd.prog w0 x.1 x.2) : SoundAt Tryd.prog w0 8 (ct_veillaw04_coords N) := by
  exact fn_printed hcs (glob_nil _ _) Tryd.func8 (by kernel_rfl) (by kernel_rfl) (S := 0) (fun w _ => loopsOK_nil _) (fun _ => rfl) (r_veillaw04_coords N)
theorem k_veillaw04_coords {w0 : World} (N : Nat)  (hg_curve_place_whole : GlobOK Tryd.prog w0 gs_curve_place_whole) : SoundAt Tryd.prog w0 8 (ct_veillaw04_coords N) :=
  s_veillaw04_coords N (cs_cons (k_curve_Point_Affine N hg_curve_place_whole) (cs_cons (k_veilref01_F_Limbs N) cs_nil))

abbrev A_veillaw04_base : Ag (Unit) := .nil
abbrev B_veillaw04_base : Pt (Bool) := .bool
def ct_veillaw04_base (N : Nat) : Ct := fct A_veillaw04_base B_veillaw04_base fun x => veillaw04_base N
def cs_veillaw04_base (N : Nat) : List (FuncId × Ct) := [(8, (ct_veillaw04_coords N)), (9, ct_curve_Base), (10, (ct_veilref04_Base N)), (11, ct_veilref04_Neutral)]
def gs_veillaw04_base : List Gv := []
noncomputable def ls_veillaw04_base (N : Nat) : List (Nat × Lf) := []
theorem r_veillaw04_base (N : Nat) : RunIs Tryd.prog (cs_veillaw04_base N) gs_veillaw04_base 0 (ls_veillaw04_base N) Tryd.f5 A_veillaw04_base B_veillaw04_base (fun x => veillaw04_base N) := by
  intro x; kernel_rfl
theorem s_veillaw04_base {w0 : World} (N : Nat)  (hcs : ∀ x ∈ cs_veillaw04_base N, SoundAt Tryd.prog w0 x.1 x.2) : SoundAt Tryd.prog w0 5 (ct_veillaw04_base N) := by
  exact fn_printed hcs (glob_nil _ _) Tryd.func5 (by kernel_rfl) (by kernel_rfl) (S := 0) (fun w _ => loopsOK_nil _) (fun _ => rfl) (r_veillaw04_base N)
theorem k_veillaw04_base {w0 : World} (N : Nat)  (hg_curve_place_whole : GlobOK Tryd.prog w0 gs_curve_place_whole) (hg_curve_Base : GlobOK Tryd.prog w0 gs_curve_Base) (hg_veilref01_least : GlobOK Tryd.prog w0 gs_veilref01_least) (hg_veilref01_F_Neg : GlobOK Tryd.prog w0 gs_veilref01_F_Neg) (hg_veilref01_root : GlobOK Tryd.prog w0 gs_veilref01_root) (hg_veilref01_SqrtRatio : GlobOK Tryd.prog w0 gs_veilref01_SqrtRatio) (hg_veilref04_XOf : GlobOK Tryd.prog w0 gs_veilref04_XOf) (hg_veilref04_Neutral : GlobOK Tryd.prog w0 gs_veilref04_Neutral) : SoundAt Tryd.prog w0 5 (ct_veillaw04_base N) :=
  s_veillaw04_base N (cs_cons (k_veillaw04_coords N hg_curve_place_whole) (cs_cons (k_curve_Base hg_curve_Base) (cs_cons (k_veilref04_Base N hg_veilref01_least hg_veilref01_F_Neg hg_veilref01_root hg_veilref01_SqrtRatio hg_veilref04_XOf) (cs_cons (k_veilref04_Neutral hg_veilref04_Neutral) cs_nil))))

abbrev A_veillaw04_CurveMakes : Ag ((List ((Int × Int × Int × Int × List Int × List Int × List Int × List Int)) × Unit)) := (.one (.tup (.cons (.vec (.agg (.cons (.int .i64) (.cons (.int .i64) (.cons (.int .i64) (.cons (.int .i64) (.cons (.ints .u8 32) (.cons (.ints .u64 4) (.cons (.ints .u64 5) (.ints .u64 5)))))))))) (.one (.lit (.clo 37 []))))))
abbrev B_veillaw04_CurveMakes : Pt (Bool) := .bool
def ct_veillaw04_CurveMakes (N M : Nat) : Ct := fct A_veillaw04_CurveMakes B_veillaw04_CurveMakes fun x => veillaw04_CurveMakes N M x
def cs_veillaw04_CurveMakes (N M : Nat) : List (FuncId × Ct) := [(5, (ct_veillaw04_base N)), (8, (ct_veillaw04_coords N)), (9, ct_curve_Base), (10, (ct_veilref04_Base N)), (11, ct_veilref04_Neutral), (12, ct_curve_Torsion), (13, (ct_veilref04_Torsion N)), (14, ct_curve_FromAffine), (15, (ct_veilref04_FromAffine N)), (16, (ct_veilref01_Of N)), (17, (ct_curve_Decompress N)), (18, (ct_veilref04_Decompress N))]
def gs_veillaw04_CurveMakes : List Gv := []
noncomputable def is_veillaw04_CurveMakes (N M : Nat) : List (FuncId × Inl) := ((6, inlOf Tryd.prog (cs_veillaw04_CurveMakes N M) gs_veillaw04_CurveMakes 1 100 [] Tryd.f6) :: [])
theorem isok_veillaw04_CurveMakes (N M : Nat) : InlAll Tryd.prog (cs_veillaw04_CurveMakes N M) gs_veillaw04_CurveMakes 1 100 (is_veillaw04_CurveMakes N M) := ⟨⟨Tryd.f6, Tryd.func6, by kernel_rfl, by kernel_rfl, rfl⟩, trivial⟩
def veillaw04_CurveMakes_l0_H : Fm ((Nat × Unit × Unit × Int)) ((List ((Int × Int × Int × Int × List Int × List Int × List Int × List Int)) × List ((List Int × List Int × List Int × List Int)) × List ((List Int × List Int)) × (Nat × Nat))) := ⟨(.cons 0 (.slw 0 37) (.cons 2 (.lit (.bool false)) (.cons 3 (.lit (.ptr 5 [] 28)) (.one 4 (.int .i64))))), (.cons 0 (.vec (.agg (.cons (.int .i64) (.cons (.int .i64) (.cons (.int .i64) (.cons (.int .i64) (.cons (.ints .u8 32) (.cons (.ints .u64 4) (.cons (.ints .u64 5) (.ints .u64 5)))))))))) (.cons 1 (.vec (.agg (.agg (.cons (.ints .u64 5) (.cons (.ints .u64 5) (.cons (.ints .u64 5) (.ints .u64 5))))))) (.cons 2 (.vec (.agg (.cons (.ints .i64 10) (.ints .i64 10)))) (.one 5 (.agg (.cons (.gsw 1 44) (.one (.gsw 2 48))))))))⟩
def veillaw04_CurveMakes_l0_O : Fm (Unit) (Unit) := ⟨.nil, .nil⟩
def veillaw04_CurveMakes_l0_T : Fm (Unit) (Unit) := ⟨(.one 2 (.lit (.bool false))), .nil⟩
noncomputable def ls_veillaw04_CurveMakes (N M : Nat) : List (Nat × Lf) := [(0, loopCt veillaw04_CurveMakes_l0_H veillaw04_CurveMakes_l0_O veillaw04_CurveMakes_l0_T 8 (veillaw04_CurveMakes_l0 N M) M)]
theorem veillaw04_CurveMakes_l0_step (N M : Nat) : StepIs Tryd.prog (cxIn Tryd.f3 (cs_veillaw04_CurveMakes N M) gs_veillaw04_CurveMakes 1 (is_veillaw04_CurveMakes N M)) (ls_veillaw04_CurveMakes N M) Tryd.f3 0 8 veillaw04_CurveMakes_l0_H veillaw04_CurveMakes_l0_O veillaw04_CurveMakes_l0_T (veillaw04_CurveMakes_l0 N M) := by
  intro v; kernel_rfl
theorem r_veillaw04_CurveMakes (N M : Nat) : RunIs Tryd.prog (cs_veillaw04_CurveMakes N M) gs_veillaw04_CurveMakes 1 (ls_veillaw04_CurveMakes N M) Tryd.f3 A_veillaw04_CurveMakes B_veillaw04_CurveMakes (fun x => veillaw04_CurveMakes N M x) (fun g => lkI g (is_veillaw04_CurveMakes N M)) := by
  intro x; kernel_rfl
theorem s_veillaw04_CurveMakes {w0 : World} (N M : Nat)  (hcs : ∀ x ∈ cs_veillaw04_CurveMakes N M, SoundAt Tryd.prog w0 x.1 x.2) : SoundAt Tryd.prog w0 3 (ct_veillaw04_CurveMakes N M) := by
  have L0 : ∀ w, RowKit.Below w0.heap.size w0 w → LoopOK Tryd.prog (cxIn Tryd.f3 (cs_veillaw04_CurveMakes N M) gs_veillaw04_CurveMakes 1 (is_veillaw04_CurveMakes N M)) w 0 (.loop (loopBody Tryd.f3 0)) (loopCt veillaw04_CurveMakes_l0_H veillaw04_CurveMakes_l0_O veillaw04_CurveMakes_l0_T 8 (veillaw04_CurveMakes_l0 N M) M) :=
    loop_printedI hcs (isok_veillaw04_CurveMakes N M) (ls := ls_veillaw04_CurveMakes N M) (n := 100) (by kernel_rfl) (veillaw04_CurveMakes_l0_step N M) M fun w hw => loopsOK_list (lp_no (by kernel_rfl) lp_nil)
  exact fn_printedI hcs (glob_nil _ _) (isok_veillaw04_CurveMakes N M) Tryd.func3 (by kernel_rfl) (by kernel_rfl) (S := 1) (fun w hw => loopsOK_list (lp_yes (L0 w hw) (by kernel_rfl) lp_nil)) (fun _ => rfl) (r_veillaw04_CurveMakes N M)
theorem k_veillaw04_CurveMakes {w0 : World} (N M : Nat)  (hg_curve_place_whole : GlobOK Tryd.prog w0 gs_curve_place_whole) (hg_curve_Base : GlobOK Tryd.prog w0 gs_curve_Base) (hg_veilref01_least : GlobOK Tryd.prog w0 gs_veilref01_least) (hg_veilref01_F_Neg : GlobOK Tryd.prog w0 gs_veilref01_F_Neg) (hg_veilref01_root : GlobOK Tryd.prog w0 gs_veilref01_root) (hg_veilref01_SqrtRatio : GlobOK Tryd.prog w0 gs_veilref01_SqrtRatio) (hg_veilref04_XOf : GlobOK Tryd.prog w0 gs_veilref04_XOf) (hg_veilref04_Neutral : GlobOK Tryd.prog w0 gs_veilref04_Neutral) (hg_curve_Torsion : GlobOK Tryd.prog w0 gs_curve_Torsion) (hg_veilref04_Point_Add : GlobOK Tryd.prog w0 gs_veilref04_Point_Add) (hg_veilref04_Torsion : GlobOK Tryd.prog w0 gs_veilref04_Torsion) (hg_field_Const : GlobOK Tryd.prog w0 gs_field_Const) (hg_curve_at : GlobOK Tryd.prog w0 gs_curve_at) (hg_curve_FromAffine : GlobOK Tryd.prog w0 gs_curve_FromAffine) (hg_veilref04_On : GlobOK Tryd.prog w0 gs_veilref04_On) (hg_field_SqrtRatio : GlobOK Tryd.prog w0 gs_field_SqrtRatio) (hg_curve_xOf : GlobOK Tryd.prog w0 gs_curve_xOf) (hg_veilref04_Decompress : GlobOK Tryd.prog w0 gs_veilref04_Decompress) : SoundAt Tryd.prog w0 3 (ct_veillaw04_CurveMakes N M) :=
  s_veillaw04_CurveMakes N M (cs_cons (k_veillaw04_base N hg_curve_place_whole hg_curve_Base hg_veilref01_least hg_veilref01_F_Neg hg_veilref01_root hg_veilref01_SqrtRatio hg_veilref04_XOf hg_veilref04_Neutral) (cs_cons (k_veillaw04_coords N hg_curve_place_whole) (cs_cons (k_curve_Base hg_curve_Base) (cs_cons (k_veilref04_Base N hg_veilref01_least hg_veilref01_F_Neg hg_veilref01_root hg_veilref01_SqrtRatio hg_veilref04_XOf) (cs_cons (k_veilref04_Neutral hg_veilref04_Neutral) (cs_cons (k_curve_Torsion hg_curve_Torsion) (cs_cons (k_veilref04_Torsion N hg_veilref04_Neutral hg_veilref01_least hg_veilref01_F_Neg hg_veilref04_Point_Add hg_veilref04_Torsion) (cs_cons (k_curve_FromAffine hg_field_Const hg_curve_at hg_curve_FromAffine) (cs_cons (k_veilref04_FromAffine N hg_veilref04_Neutral hg_veilref01_least hg_veilref01_F_Neg hg_veilref04_On) (cs_cons (k_veilref01_Of N hg_veilref01_least) (cs_cons (k_curve_Decompress N hg_curve_at hg_field_Const hg_field_SqrtRatio hg_curve_xOf) (cs_cons (k_veilref04_Decompress N hg_veilref04_Neutral hg_veilref01_least hg_veilref01_F_Neg hg_veilref01_root hg_veilref01_SqrtRatio hg_veilref04_XOf hg_veilref04_Decompress) cs_nil))))))))))))

end Go.Vx
