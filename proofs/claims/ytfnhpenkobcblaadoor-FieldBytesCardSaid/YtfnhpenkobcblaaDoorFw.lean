import Derived.Test.YtfnhpenkobcblaaDoorFp
import Derived.Test.YtfnhpenkobcblaaDoorProg
set_option autoImplicit false
set_option linter.unusedVariables false
set_option linter.unusedSimpArgs false
namespace Go.Vx
open Go Go.Proofs

def ct_bits_Add64 : Ct := fct (.cons (.int .u64) (.cons (.int .u64) (.one (.int .u64)))) (.tup (.cons (.int .u64) (.one (.int .u64)))) fun x => bits_Add64 x.1 x.2.1 x.2.2

theorem k_bits_Add64 {w0 : World} : SoundAt Tryd.prog w0 73 ct_bits_Add64 :=
  sound_add64 Tryd.func73 (by kernel_rfl) (by kernel_rfl) (by kernel_rfl) (by kernel_rfl)

def ct_field_Elem_light : Ct := tct (.one (.ints .u64 5)) (.ints .u64 5) fun x => field_Elem_light x
def cs_field_Elem_light : List (FuncId × Ct) := []
def gs_field_Elem_light : List Gv := []
noncomputable def ls_field_Elem_light : List (Nat × Lf) := []
theorem r_field_Elem_light : ∀ x, run Tryd.prog (fun g => lkG g (cs_field_Elem_light)) (glAt gs_field_Elem_light 0) (gs_field_Elem_light.length + 0) (memAt gs_field_Elem_light 0 ++ (unc gs_field_Elem_light.length (Ag.mk ((.one (.ints .u64 5))) x)).2) (fun i => lkL i (ls_field_Elem_light)) 100 Tryd.f54 (unc gs_field_Elem_light.length (Ag.mk ((.one (.ints .u64 5))) x)).1 none (Pt.get ((.ints .u64 5))) = some (field_Elem_light x) := by
  intro x; kernel_rfl
theorem s_field_Elem_light {w0 : World}  : SoundAt Tryd.prog w0 54 ct_field_Elem_light := by
  have hcs : ∀ x ∈ cs_field_Elem_light, SoundAt Tryd.prog w0 x.1 x.2 := by
    intro x hx
    simp [cs_field_Elem_light] at hx
  exact sound_tct (fn_printed hcs (glob_nil _ _) Tryd.func54 (by kernel_rfl) (by kernel_rfl) (S := 0) (fun w _ => loopsOK_nil _) (fun _ => rfl) (r_field_Elem_light)) fun _ _ => rfl
theorem k_field_Elem_light {w0 : World}  : SoundAt Tryd.prog w0 54 ct_field_Elem_light :=
  s_field_Elem_light

def ct_field_Elem_Least : Ct := tct (.one (.ints .u64 5)) (.ints .u64 5) fun x => field_Elem_Least x
def cs_field_Elem_Least : List (FuncId × Ct) := [(54, ct_field_Elem_light)]
def gs_field_Elem_Least : List Gv := []
noncomputable def ls_field_Elem_Least : List (Nat × Lf) := []
theorem r_field_Elem_Least : ∀ x, run Tryd.prog (fun g => lkG g (cs_field_Elem_Least)) (glAt gs_field_Elem_Least 0) (gs_field_Elem_Least.length + 0) (memAt gs_field_Elem_Least 0 ++ (unc gs_field_Elem_Least.length (Ag.mk ((.one (.ints .u64 5))) x)).2) (fun i => lkL i (ls_field_Elem_Least)) 100 Tryd.f15 (unc gs_field_Elem_Least.length (Ag.mk ((.one (.ints .u64 5))) x)).1 none (Pt.get ((.ints .u64 5))) = some (field_Elem_Least x) := by
  intro x; kernel_rfl
theorem s_field_Elem_Least {w0 : World}  (h54 : SoundAt Tryd.prog w0 54 ct_field_Elem_light) : SoundAt Tryd.prog w0 15 ct_field_Elem_Least := by
  have hcs : ∀ x ∈ cs_field_Elem_Least, SoundAt Tryd.prog w0 x.1 x.2 := by
    intro x hx
    simp only [cs_field_Elem_Least, List.mem_cons, List.not_mem_nil, or_false] at hx
    rcases hx with rfl
    · exact h54
  exact sound_tct (fn_printed hcs (glob_nil _ _) Tryd.func15 (by kernel_rfl) (by kernel_rfl) (S := 0) (fun w _ => loopsOK_nil _) (fun _ => rfl) (r_field_Elem_Least)) fun _ _ => rfl
theorem k_field_Elem_Least {w0 : World}  : SoundAt Tryd.prog w0 15 ct_field_Elem_Least :=
  s_field_Elem_Least (k_field_Elem_light)

def ct_field_Elem_slim : Ct := tct (.one (.ints .u64 5)) .bool fun x => field_Elem_slim x
def cs_field_Elem_slim : List (FuncId × Ct) := []
def gs_field_Elem_slim : List Gv := []
noncomputable def ls_field_Elem_slim : List (Nat × Lf) := []
theorem r_field_Elem_slim : ∀ x, run Tryd.prog (fun g => lkG g (cs_field_Elem_slim)) (glAt gs_field_Elem_slim 0) (gs_field_Elem_slim.length + 0) (memAt gs_field_Elem_slim 0 ++ (unc gs_field_Elem_slim.length (Ag.mk ((.one (.ints .u64 5))) x)).2) (fun i => lkL i (ls_field_Elem_slim)) 100 Tryd.f61 (unc gs_field_Elem_slim.length (Ag.mk ((.one (.ints .u64 5))) x)).1 none (Pt.get (.bool)) = some (field_Elem_slim x) := by
  intro x; kernel_rfl
theorem s_field_Elem_slim {w0 : World}  : SoundAt Tryd.prog w0 61 ct_field_Elem_slim := by
  have hcs : ∀ x ∈ cs_field_Elem_slim, SoundAt Tryd.prog w0 x.1 x.2 := by
    intro x hx
    simp [cs_field_Elem_slim] at hx
  exact sound_tct (fn_printed hcs (glob_nil _ _) Tryd.func61 (by kernel_rfl) (by kernel_rfl) (S := 0) (fun w _ => loopsOK_nil _) (fun _ => rfl) (r_field_Elem_slim)) fun _ _ => rfl
theorem k_field_Elem_slim {w0 : World}  : SoundAt Tryd.prog w0 61 ct_field_Elem_slim :=
  s_field_Elem_slim

def ct_field_last : Ct := tct (.cons (.int .u64) (.cons (.int .u64) (.cons (.int .u64) (.cons (.int .u64) (.one (.int .u64)))))) (.ints .u64 5) fun x => field_last x.1 x.2.1 x.2.2.1 x.2.2.2.1 x.2.2.2.2
def cs_field_last : List (FuncId × Ct) := []
def gs_field_last : List Gv := []
noncomputable def ls_field_last : List (Nat × Lf) := []
theorem r_field_last : ∀ x, run Tryd.prog (fun g => lkG g (cs_field_last)) (glAt gs_field_last 0) (gs_field_last.length + 0) (memAt gs_field_last 0 ++ (unc gs_field_last.length (Ag.mk ((.cons (.int .u64) (.cons (.int .u64) (.cons (.int .u64) (.cons (.int .u64) (.one (.int .u64))))))) x)).2) (fun i => lkL i (ls_field_last)) 100 Tryd.f71 (unc gs_field_last.length (Ag.mk ((.cons (.int .u64) (.cons (.int .u64) (.cons (.int .u64) (.cons (.int .u64) (.one (.int .u64))))))) x)).1 none (Pt.get ((.ints .u64 5))) = some (field_last x.1 x.2.1 x.2.2.1 x.2.2.2.1 x.2.2.2.2) := by
  intro x; kernel_rfl
theorem s_field_last {w0 : World}  : SoundAt Tryd.prog w0 71 ct_field_last := by
  have hcs : ∀ x ∈ cs_field_last, SoundAt Tryd.prog w0 x.1 x.2 := by
    intro x hx
    simp [cs_field_last] at hx
  exact sound_tct (fn_printed hcs (glob_nil _ _) Tryd.func71 (by kernel_rfl) (by kernel_rfl) (S := 0) (fun w _ => loopsOK_nil _) (fun _ => rfl) (r_field_last)) fun _ _ => rfl
theorem k_field_last {w0 : World}  : SoundAt Tryd.prog w0 71 ct_field_last :=
  s_field_last

def ct_field_closed : Ct := tct (.cons (.int .u64) (.cons (.int .u64) (.cons (.int .u64) (.cons (.int .u64) (.one (.int .u64)))))) (.ints .u64 5) fun x => field_closed x.1 x.2.1 x.2.2.1 x.2.2.2.1 x.2.2.2.2
def cs_field_closed : List (FuncId × Ct) := [(71, ct_field_last)]
def gs_field_closed : List Gv := []
noncomputable def ls_field_closed : List (Nat × Lf) := []
theorem r_field_closed : ∀ x, run Tryd.prog (fun g => lkG g (cs_field_closed)) (glAt gs_field_closed 0) (gs_field_closed.length + 0) (memAt gs_field_closed 0 ++ (unc gs_field_closed.length (Ag.mk ((.cons (.int .u64) (.cons (.int .u64) (.cons (.int .u64) (.cons (.int .u64) (.one (.int .u64))))))) x)).2) (fun i => lkL i (ls_field_closed)) 100 Tryd.f62 (unc gs_field_closed.length (Ag.mk ((.cons (.int .u64) (.cons (.int .u64) (.cons (.int .u64) (.cons (.int .u64) (.one (.int .u64))))))) x)).1 none (Pt.get ((.ints .u64 5))) = field_closed_o x.1 x.2.1 x.2.2.1 x.2.2.2.1 x.2.2.2.2 := by
  intro x; kernel_rfl
theorem s_field_closed {w0 : World}  (h71 : SoundAt Tryd.prog w0 71 ct_field_last) : SoundAt Tryd.prog w0 62 ct_field_closed := by
  have hcs : ∀ x ∈ cs_field_closed, SoundAt Tryd.prog w0 x.1 x.2 := by
    intro x hx
    simp only [cs_field_closed, List.mem_cons, List.not_mem_nil, or_false] at hx
    rcases hx with rfl
    · exact h71
  exact sound_tct (fn_printed hcs (glob_nil _ _) Tryd.func62 (by kernel_rfl) (by kernel_rfl) (S := 0) (fun w _ => loopsOK_nil _) (fun _ => rfl) (r_field_closed)) fun _ _ => field_closed_tot _ _ _ _ _
theorem k_field_closed {w0 : World}  : SoundAt Tryd.prog w0 62 ct_field_closed :=
  s_field_closed (k_field_last)

def ct_field_Elem_Add : Ct := tct (.cons (.ints .u64 5) (.one (.ints .u64 5))) (.ints .u64 5) fun x => field_Elem_Add x.1 x.2
def cs_field_Elem_Add : List (FuncId × Ct) := [(15, ct_field_Elem_Least), (61, ct_field_Elem_slim), (62, ct_field_closed)]
def gs_field_Elem_Add : List Gv := []
noncomputable def ls_field_Elem_Add : List (Nat × Lf) := []
theorem r_field_Elem_Add : ∀ x, run Tryd.prog (fun g => lkG g (cs_field_Elem_Add)) (glAt gs_field_Elem_Add 0) (gs_field_Elem_Add.length + 0) (memAt gs_field_Elem_Add 0 ++ (unc gs_field_Elem_Add.length (Ag.mk ((.cons (.ints .u64 5) (.one (.ints .u64 5)))) x)).2) (fun i => lkL i (ls_field_Elem_Add)) 100 Tryd.f27 (unc gs_field_Elem_Add.length (Ag.mk ((.cons (.ints .u64 5) (.one (.ints .u64 5)))) x)).1 none (Pt.get ((.ints .u64 5))) = field_Elem_Add_o x.1 x.2 := by
  intro x; kernel_rfl
theorem s_field_Elem_Add {w0 : World}  (h15 : SoundAt Tryd.prog w0 15 ct_field_Elem_Least) (h61 : SoundAt Tryd.prog w0 61 ct_field_Elem_slim) (h62 : SoundAt Tryd.prog w0 62 ct_field_closed) : SoundAt Tryd.prog w0 27 ct_field_Elem_Add := by
  have hcs : ∀ x ∈ cs_field_Elem_Add, SoundAt Tryd.prog w0 x.1 x.2 := by
    intro x hx
    simp only [cs_field_Elem_Add, List.mem_cons, List.not_mem_nil, or_false] at hx
    rcases hx with rfl | rfl | rfl
    · exact h15
    · exact h61
    · exact h62
  exact sound_tct (fn_printed hcs (glob_nil _ _) Tryd.func27 (by kernel_rfl) (by kernel_rfl) (S := 0) (fun w _ => loopsOK_nil _) (fun _ => rfl) (r_field_Elem_Add)) fun _ _ => field_Elem_Add_tot _ _
theorem k_field_Elem_Add {w0 : World}  : SoundAt Tryd.prog w0 27 ct_field_Elem_Add :=
  s_field_Elem_Add (k_field_Elem_Least) (k_field_Elem_slim) (k_field_closed)

def ct_field_Elem_Sub : Ct := tct (.cons (.ints .u64 5) (.one (.ints .u64 5))) (.ints .u64 5) fun x => field_Elem_Sub x.1 x.2
def cs_field_Elem_Sub : List (FuncId × Ct) := [(15, ct_field_Elem_Least), (61, ct_field_Elem_slim), (62, ct_field_closed)]
def gs_field_Elem_Sub : List Gv := []
noncomputable def ls_field_Elem_Sub : List (Nat × Lf) := []
theorem r_field_Elem_Sub : ∀ x, run Tryd.prog (fun g => lkG g (cs_field_Elem_Sub)) (glAt gs_field_Elem_Sub 0) (gs_field_Elem_Sub.length + 0) (memAt gs_field_Elem_Sub 0 ++ (unc gs_field_Elem_Sub.length (Ag.mk ((.cons (.ints .u64 5) (.one (.ints .u64 5)))) x)).2) (fun i => lkL i (ls_field_Elem_Sub)) 100 Tryd.f29 (unc gs_field_Elem_Sub.length (Ag.mk ((.cons (.ints .u64 5) (.one (.ints .u64 5)))) x)).1 none (Pt.get ((.ints .u64 5))) = field_Elem_Sub_o x.1 x.2 := by
  intro x; kernel_rfl
theorem s_field_Elem_Sub {w0 : World}  (h15 : SoundAt Tryd.prog w0 15 ct_field_Elem_Least) (h61 : SoundAt Tryd.prog w0 61 ct_field_Elem_slim) (h62 : SoundAt Tryd.prog w0 62 ct_field_closed) : SoundAt Tryd.prog w0 29 ct_field_Elem_Sub := by
  have hcs : ∀ x ∈ cs_field_Elem_Sub, SoundAt Tryd.prog w0 x.1 x.2 := by
    intro x hx
    simp only [cs_field_Elem_Sub, List.mem_cons, List.not_mem_nil, or_false] at hx
    rcases hx with rfl | rfl | rfl
    · exact h15
    · exact h61
    · exact h62
  exact sound_tct (fn_printed hcs (glob_nil _ _) Tryd.func29 (by kernel_rfl) (by kernel_rfl) (S := 0) (fun w _ => loopsOK_nil _) (fun _ => rfl) (r_field_Elem_Sub)) fun _ _ => field_Elem_Sub_tot _ _
theorem k_field_Elem_Sub {w0 : World}  : SoundAt Tryd.prog w0 29 ct_field_Elem_Sub :=
  s_field_Elem_Sub (k_field_Elem_Least) (k_field_Elem_slim) (k_field_closed)

def ct_field_Elem_Neg : Ct := tct (.one (.ints .u64 5)) (.ints .u64 5) fun x => field_Elem_Neg x
def cs_field_Elem_Neg : List (FuncId × Ct) := [(29, ct_field_Elem_Sub)]
def gs_field_Elem_Neg : List Gv := []
noncomputable def ls_field_Elem_Neg : List (Nat × Lf) := []
theorem r_field_Elem_Neg : ∀ x, run Tryd.prog (fun g => lkG g (cs_field_Elem_Neg)) (glAt gs_field_Elem_Neg 0) (gs_field_Elem_Neg.length + 0) (memAt gs_field_Elem_Neg 0 ++ (unc gs_field_Elem_Neg.length (Ag.mk ((.one (.ints .u64 5))) x)).2) (fun i => lkL i (ls_field_Elem_Neg)) 100 Tryd.f31 (unc gs_field_Elem_Neg.length (Ag.mk ((.one (.ints .u64 5))) x)).1 none (Pt.get ((.ints .u64 5))) = some (field_Elem_Neg x) := by
  intro x; kernel_rfl
theorem s_field_Elem_Neg {w0 : World}  (h29 : SoundAt Tryd.prog w0 29 ct_field_Elem_Sub) : SoundAt Tryd.prog w0 31 ct_field_Elem_Neg := by
  have hcs : ∀ x ∈ cs_field_Elem_Neg, SoundAt Tryd.prog w0 x.1 x.2 := by
    intro x hx
    simp only [cs_field_Elem_Neg, List.mem_cons, List.not_mem_nil, or_false] at hx
    rcases hx with rfl
    · exact h29
  exact sound_tct (fn_printed hcs (glob_nil _ _) Tryd.func31 (by kernel_rfl) (by kernel_rfl) (S := 0) (fun w _ => loopsOK_nil _) (fun _ => rfl) (r_field_Elem_Neg)) fun _ _ => rfl
theorem k_field_Elem_Neg {w0 : World}  : SoundAt Tryd.prog w0 31 ct_field_Elem_Neg :=
  s_field_Elem_Neg (k_field_Elem_Sub)

def ct_bits_Mul64 : Ct := tct (.cons (.int .u64) (.one (.int .u64))) (.tup (.cons (.int .u64) (.one (.int .u64)))) fun x => bits_Mul64 x.1 x.2
def cs_bits_Mul64 : List (FuncId × Ct) := []
def gs_bits_Mul64 : List Gv := []
noncomputable def ls_bits_Mul64 : List (Nat × Lf) := []
theorem r_bits_Mul64 : ∀ x, run Tryd.prog (fun g => lkG g (cs_bits_Mul64)) (glAt gs_bits_Mul64 0) (gs_bits_Mul64.length + 0) (memAt gs_bits_Mul64 0 ++ (unc gs_bits_Mul64.length (Ag.mk ((.cons (.int .u64) (.one (.int .u64)))) x)).2) (fun i => lkL i (ls_bits_Mul64)) 100 Tryd.f72 (unc gs_bits_Mul64.length (Ag.mk ((.cons (.int .u64) (.one (.int .u64)))) x)).1 none (Pt.get ((.tup (.cons (.int .u64) (.one (.int .u64)))))) = some (bits_Mul64 x.1 x.2) := by
  intro x; kernel_rfl
theorem s_bits_Mul64 {w0 : World}  : SoundAt Tryd.prog w0 72 ct_bits_Mul64 := by
  have hcs : ∀ x ∈ cs_bits_Mul64, SoundAt Tryd.prog w0 x.1 x.2 := by
    intro x hx
    simp [cs_bits_Mul64] at hx
  exact sound_tct (fn_printed hcs (glob_nil _ _) Tryd.func72 (by kernel_rfl) (by kernel_rfl) (S := 0) (fun w _ => loopsOK_nil _) (fun _ => rfl) (r_bits_Mul64)) fun _ _ => rfl
theorem k_bits_Mul64 {w0 : World}  : SoundAt Tryd.prog w0 72 ct_bits_Mul64 :=
  s_bits_Mul64

def ct_field_double_plus : Ct := fct (.cons (.agg (.cons (.int .u64) (.one (.int .u64)))) (.cons (.int .u64) (.one (.int .u64)))) (.agg (.cons (.int .u64) (.one (.int .u64)))) fun x => field_double_plus x.1 x.2.1 x.2.2
def cs_field_double_plus : List (FuncId × Ct) := [(72, ct_bits_Mul64), (73, ct_bits_Add64)]
def gs_field_double_plus : List Gv := []
noncomputable def ls_field_double_plus : List (Nat × Lf) := []
theorem r_field_double_plus : ∀ x, run Tryd.prog (fun g => lkG g (cs_field_double_plus)) (glAt gs_field_double_plus 0) (gs_field_double_plus.length + 0) (memAt gs_field_double_plus 0 ++ (unc gs_field_double_plus.length (Ag.mk ((.cons (.agg (.cons (.int .u64) (.one (.int .u64)))) (.cons (.int .u64) (.one (.int .u64))))) x)).2) (fun i => lkL i (ls_field_double_plus)) 100 Tryd.f64 (unc gs_field_double_plus.length (Ag.mk ((.cons (.agg (.cons (.int .u64) (.one (.int .u64)))) (.cons (.int .u64) (.one (.int .u64))))) x)).1 none (Pt.get ((.agg (.cons (.int .u64) (.one (.int .u64)))))) = field_double_plus x.1 x.2.1 x.2.2 := by
  intro x; kernel_rfl
theorem s_field_double_plus {w0 : World}  (h72 : SoundAt Tryd.prog w0 72 ct_bits_Mul64) (h73 : SoundAt Tryd.prog w0 73 ct_bits_Add64) : SoundAt Tryd.prog w0 64 ct_field_double_plus := by
  have hcs : ∀ x ∈ cs_field_double_plus, SoundAt Tryd.prog w0 x.1 x.2 := by
    intro x hx
    simp only [cs_field_double_plus, List.mem_cons, List.not_mem_nil, or_false] at hx
    rcases hx with rfl | rfl
    · exact h72
    · exact h73
  exact fn_printed hcs (glob_nil _ _) Tryd.func64 (by kernel_rfl) (by kernel_rfl) (S := 0) (fun w _ => loopsOK_nil _) (fun _ => rfl) (r_field_double_plus)
theorem k_field_double_plus {w0 : World}  : SoundAt Tryd.prog w0 64 ct_field_double_plus :=
  s_field_double_plus (k_bits_Mul64) (k_bits_Add64)

def ct_field_double_over : Ct := tct (.one (.agg (.cons (.int .u64) (.one (.int .u64))))) (.int .u64) fun x => field_double_over x
def cs_field_double_over : List (FuncId × Ct) := []
def gs_field_double_over : List Gv := []
noncomputable def ls_field_double_over : List (Nat × Lf) := []
theorem r_field_double_over : ∀ x, run Tryd.prog (fun g => lkG g (cs_field_double_over)) (glAt gs_field_double_over 0) (gs_field_double_over.length + 0) (memAt gs_field_double_over 0 ++ (unc gs_field_double_over.length (Ag.mk ((.one (.agg (.cons (.int .u64) (.one (.int .u64)))))) x)).2) (fun i => lkL i (ls_field_double_over)) 100 Tryd.f74 (unc gs_field_double_over.length (Ag.mk ((.one (.agg (.cons (.int .u64) (.one (.int .u64)))))) x)).1 none (Pt.get ((.int .u64))) = some (field_double_over x) := by
  intro x; kernel_rfl
theorem s_field_double_over {w0 : World}  : SoundAt Tryd.prog w0 74 ct_field_double_over := by
  have hcs : ∀ x ∈ cs_field_double_over, SoundAt Tryd.prog w0 x.1 x.2 := by
    intro x hx
    simp [cs_field_double_over] at hx
  exact sound_tct (fn_printed hcs (glob_nil _ _) Tryd.func74 (by kernel_rfl) (by kernel_rfl) (S := 0) (fun w _ => loopsOK_nil _) (fun _ => rfl) (r_field_double_over)) fun _ _ => rfl
theorem k_field_double_over {w0 : World}  : SoundAt Tryd.prog w0 74 ct_field_double_over :=
  s_field_double_over

def ct_field_carried : Ct := fct (.cons (.agg (.cons (.int .u64) (.one (.int .u64)))) (.cons (.agg (.cons (.int .u64) (.one (.int .u64)))) (.cons (.agg (.cons (.int .u64) (.one (.int .u64)))) (.cons (.agg (.cons (.int .u64) (.one (.int .u64)))) (.one (.agg (.cons (.int .u64) (.one (.int .u64))))))))) (.ints .u64 5) fun x => field_carried x.1 x.2.1 x.2.2.1 x.2.2.2.1 x.2.2.2.2
def cs_field_carried : List (FuncId × Ct) := [(62, ct_field_closed), (64, ct_field_double_plus), (74, ct_field_double_over)]
def gs_field_carried : List Gv := []
noncomputable def ls_field_carried : List (Nat × Lf) := []
theorem r_field_carried : ∀ x, run Tryd.prog (fun g => lkG g (cs_field_carried)) (glAt gs_field_carried 0) (gs_field_carried.length + 0) (memAt gs_field_carried 0 ++ (unc gs_field_carried.length (Ag.mk ((.cons (.agg (.cons (.int .u64) (.one (.int .u64)))) (.cons (.agg (.cons (.int .u64) (.one (.int .u64)))) (.cons (.agg (.cons (.int .u64) (.one (.int .u64)))) (.cons (.agg (.cons (.int .u64) (.one (.int .u64)))) (.one (.agg (.cons (.int .u64) (.one (.int .u64)))))))))) x)).2) (fun i => lkL i (ls_field_carried)) 100 Tryd.f65 (unc gs_field_carried.length (Ag.mk ((.cons (.agg (.cons (.int .u64) (.one (.int .u64)))) (.cons (.agg (.cons (.int .u64) (.one (.int .u64)))) (.cons (.agg (.cons (.int .u64) (.one (.int .u64)))) (.cons (.agg (.cons (.int .u64) (.one (.int .u64)))) (.one (.agg (.cons (.int .u64) (.one (.int .u64)))))))))) x)).1 none (Pt.get ((.ints .u64 5))) = field_carried x.1 x.2.1 x.2.2.1 x.2.2.2.1 x.2.2.2.2 := by
  intro x; kernel_rfl
theorem s_field_carried {w0 : World}  (h62 : SoundAt Tryd.prog w0 62 ct_field_closed) (h64 : SoundAt Tryd.prog w0 64 ct_field_double_plus) (h74 : SoundAt Tryd.prog w0 74 ct_field_double_over) : SoundAt Tryd.prog w0 65 ct_field_carried := by
  have hcs : ∀ x ∈ cs_field_carried, SoundAt Tryd.prog w0 x.1 x.2 := by
    intro x hx
    simp only [cs_field_carried, List.mem_cons, List.not_mem_nil, or_false] at hx
    rcases hx with rfl | rfl | rfl
    · exact h62
    · exact h64
    · exact h74
  exact fn_printed hcs (glob_nil _ _) Tryd.func65 (by kernel_rfl) (by kernel_rfl) (S := 0) (fun w _ => loopsOK_nil _) (fun _ => rfl) (r_field_carried)
theorem k_field_carried {w0 : World}  : SoundAt Tryd.prog w0 65 ct_field_carried :=
  s_field_carried (k_field_closed) (k_field_double_plus) (k_field_double_over)

def ct_field_Elem_Mul : Ct := fct (.cons (.ints .u64 5) (.one (.ints .u64 5))) (.ints .u64 5) fun x => field_Elem_Mul x.1 x.2
def cs_field_Elem_Mul : List (FuncId × Ct) := [(15, ct_field_Elem_Least), (61, ct_field_Elem_slim), (64, ct_field_double_plus), (65, ct_field_carried)]
def gs_field_Elem_Mul : List Gv := []
noncomputable def ls_field_Elem_Mul : List (Nat × Lf) := []
theorem r_field_Elem_Mul : ∀ x, run Tryd.prog (fun g => lkG g (cs_field_Elem_Mul)) (glAt gs_field_Elem_Mul 0) (gs_field_Elem_Mul.length + 0) (memAt gs_field_Elem_Mul 0 ++ (unc gs_field_Elem_Mul.length (Ag.mk ((.cons (.ints .u64 5) (.one (.ints .u64 5)))) x)).2) (fun i => lkL i (ls_field_Elem_Mul)) 100 Tryd.f40 (unc gs_field_Elem_Mul.length (Ag.mk ((.cons (.ints .u64 5) (.one (.ints .u64 5)))) x)).1 none (Pt.get ((.ints .u64 5))) = field_Elem_Mul x.1 x.2 := by
  intro x; kernel_rfl
theorem s_field_Elem_Mul {w0 : World}  (h15 : SoundAt Tryd.prog w0 15 ct_field_Elem_Least) (h61 : SoundAt Tryd.prog w0 61 ct_field_Elem_slim) (h64 : SoundAt Tryd.prog w0 64 ct_field_double_plus) (h65 : SoundAt Tryd.prog w0 65 ct_field_carried) : SoundAt Tryd.prog w0 40 ct_field_Elem_Mul := by
  have hcs : ∀ x ∈ cs_field_Elem_Mul, SoundAt Tryd.prog w0 x.1 x.2 := by
    intro x hx
    simp only [cs_field_Elem_Mul, List.mem_cons, List.not_mem_nil, or_false] at hx
    rcases hx with rfl | rfl | rfl | rfl
    · exact h15
    · exact h61
    · exact h64
    · exact h65
  exact fn_printed hcs (glob_nil _ _) Tryd.func40 (by kernel_rfl) (by kernel_rfl) (S := 0) (fun w _ => loopsOK_nil _) (fun _ => rfl) (r_field_Elem_Mul)
theorem k_field_Elem_Mul {w0 : World}  : SoundAt Tryd.prog w0 40 ct_field_Elem_Mul :=
  s_field_Elem_Mul (k_field_Elem_Least) (k_field_Elem_slim) (k_field_double_plus) (k_field_carried)

def ct_field_Elem_Square : Ct := fct (.one (.ints .u64 5)) (.ints .u64 5) fun x => field_Elem_Square x
def cs_field_Elem_Square : List (FuncId × Ct) := [(15, ct_field_Elem_Least), (61, ct_field_Elem_slim), (64, ct_field_double_plus), (65, ct_field_carried)]
def gs_field_Elem_Square : List Gv := []
noncomputable def ls_field_Elem_Square : List (Nat × Lf) := []
theorem r_field_Elem_Square : ∀ x, run Tryd.prog (fun g => lkG g (cs_field_Elem_Square)) (glAt gs_field_Elem_Square 0) (gs_field_Elem_Square.length + 0) (memAt gs_field_Elem_Square 0 ++ (unc gs_field_Elem_Square.length (Ag.mk ((.one (.ints .u64 5))) x)).2) (fun i => lkL i (ls_field_Elem_Square)) 100 Tryd.f42 (unc gs_field_Elem_Square.length (Ag.mk ((.one (.ints .u64 5))) x)).1 none (Pt.get ((.ints .u64 5))) = field_Elem_Square x := by
  intro x; kernel_rfl
theorem s_field_Elem_Square {w0 : World}  (h15 : SoundAt Tryd.prog w0 15 ct_field_Elem_Least) (h61 : SoundAt Tryd.prog w0 61 ct_field_Elem_slim) (h64 : SoundAt Tryd.prog w0 64 ct_field_double_plus) (h65 : SoundAt Tryd.prog w0 65 ct_field_carried) : SoundAt Tryd.prog w0 42 ct_field_Elem_Square := by
  have hcs : ∀ x ∈ cs_field_Elem_Square, SoundAt Tryd.prog w0 x.1 x.2 := by
    intro x hx
    simp only [cs_field_Elem_Square, List.mem_cons, List.not_mem_nil, or_false] at hx
    rcases hx with rfl | rfl | rfl | rfl
    · exact h15
    · exact h61
    · exact h64
    · exact h65
  exact fn_printed hcs (glob_nil _ _) Tryd.func42 (by kernel_rfl) (by kernel_rfl) (S := 0) (fun w _ => loopsOK_nil _) (fun _ => rfl) (r_field_Elem_Square)
theorem k_field_Elem_Square {w0 : World}  : SoundAt Tryd.prog w0 42 ct_field_Elem_Square :=
  s_field_Elem_Square (k_field_Elem_Least) (k_field_Elem_slim) (k_field_double_plus) (k_field_carried)

def ct_field_load : Ct := tct (.one (.ints .u8 32)) (.ints .u64 5) fun x => field_load x
def cs_field_load : List (FuncId × Ct) := []
def gs_field_load : List Gv := []
noncomputable def ls_field_load : List (Nat × Lf) := []
theorem r_field_load : ∀ x, run Tryd.prog (fun g => lkG g (cs_field_load)) (glAt gs_field_load 0) (gs_field_load.length + 0) (memAt gs_field_load 0 ++ (unc gs_field_load.length (Ag.mk ((.one (.ints .u8 32))) x)).2) (fun i => lkL i (ls_field_load)) 100 Tryd.f59 (unc gs_field_load.length (Ag.mk ((.one (.ints .u8 32))) x)).1 none (Pt.get ((.ints .u64 5))) = some (field_load x) := by
  intro x; kernel_rfl
theorem s_field_load {w0 : World}  : SoundAt Tryd.prog w0 59 ct_field_load := by
  have hcs : ∀ x ∈ cs_field_load, SoundAt Tryd.prog w0 x.1 x.2 := by
    intro x hx
    simp [cs_field_load] at hx
  exact sound_tct (fn_printed hcs (glob_nil _ _) Tryd.func59 (by kernel_rfl) (by kernel_rfl) (S := 0) (fun w _ => loopsOK_nil _) (fun _ => rfl) (r_field_load)) fun _ _ => rfl
theorem k_field_load {w0 : World}  : SoundAt Tryd.prog w0 59 ct_field_load :=
  s_field_load

def ct_field_Decode : Ct := tct (.one (.ints .u8 32)) (.tup (.cons (.ints .u64 5) (.one (.int .i64)))) fun x => field_Decode x
def cs_field_Decode : List (FuncId × Ct) := [(15, ct_field_Elem_Least), (59, ct_field_load)]
def gs_field_Decode : List Gv := []
noncomputable def ls_field_Decode : List (Nat × Lf) := []
theorem r_field_Decode : ∀ x, run Tryd.prog (fun g => lkG g (cs_field_Decode)) (glAt gs_field_Decode 0) (gs_field_Decode.length + 0) (memAt gs_field_Decode 0 ++ (unc gs_field_Decode.length (Ag.mk ((.one (.ints .u8 32))) x)).2) (fun i => lkL i (ls_field_Decode)) 100 Tryd.f23 (unc gs_field_Decode.length (Ag.mk ((.one (.ints .u8 32))) x)).1 none (Pt.get ((.tup (.cons (.ints .u64 5) (.one (.int .i64)))))) = field_Decode_o x := by
  intro x; kernel_rfl
theorem s_field_Decode {w0 : World}  (h15 : SoundAt Tryd.prog w0 15 ct_field_Elem_Least) (h59 : SoundAt Tryd.prog w0 59 ct_field_load) : SoundAt Tryd.prog w0 23 ct_field_Decode := by
  have hcs : ∀ x ∈ cs_field_Decode, SoundAt Tryd.prog w0 x.1 x.2 := by
    intro x hx
    simp only [cs_field_Decode, List.mem_cons, List.not_mem_nil, or_false] at hx
    rcases hx with rfl | rfl
    · exact h15
    · exact h59
  exact sound_tct (fn_printed hcs (glob_nil _ _) Tryd.func23 (by kernel_rfl) (by kernel_rfl) (S := 0) (fun w _ => loopsOK_nil _) (fun _ => rfl) (r_field_Decode)) fun _ _ => field_Decode_tot _
theorem k_field_Decode {w0 : World}  : SoundAt Tryd.prog w0 23 ct_field_Decode :=
  s_field_Decode (k_field_Elem_Least) (k_field_load)

def ct_field_Reduce : Ct := tct (.one (.ints .u8 32)) (.ints .u64 5) fun x => field_Reduce x
def cs_field_Reduce : List (FuncId × Ct) := [(15, ct_field_Elem_Least), (59, ct_field_load)]
def gs_field_Reduce : List Gv := []
noncomputable def ls_field_Reduce : List (Nat × Lf) := []
theorem r_field_Reduce : ∀ x, run Tryd.prog (fun g => lkG g (cs_field_Reduce)) (glAt gs_field_Reduce 0) (gs_field_Reduce.length + 0) (memAt gs_field_Reduce 0 ++ (unc gs_field_Reduce.length (Ag.mk ((.one (.ints .u8 32))) x)).2) (fun i => lkL i (ls_field_Reduce)) 100 Tryd.f25 (unc gs_field_Reduce.length (Ag.mk ((.one (.ints .u8 32))) x)).1 none (Pt.get ((.ints .u64 5))) = some (field_Reduce x) := by
  intro x; kernel_rfl
theorem s_field_Reduce {w0 : World}  (h15 : SoundAt Tryd.prog w0 15 ct_field_Elem_Least) (h59 : SoundAt Tryd.prog w0 59 ct_field_load) : SoundAt Tryd.prog w0 25 ct_field_Reduce := by
  have hcs : ∀ x ∈ cs_field_Reduce, SoundAt Tryd.prog w0 x.1 x.2 := by
    intro x hx
    simp only [cs_field_Reduce, List.mem_cons, List.not_mem_nil, or_false] at hx
    rcases hx with rfl | rfl
    · exact h15
    · exact h59
  exact sound_tct (fn_printed hcs (glob_nil _ _) Tryd.func25 (by kernel_rfl) (by kernel_rfl) (S := 0) (fun w _ => loopsOK_nil _) (fun _ => rfl) (r_field_Reduce)) fun _ _ => rfl
theorem k_field_Reduce {w0 : World}  : SoundAt Tryd.prog w0 25 ct_field_Reduce :=
  s_field_Reduce (k_field_Elem_Least) (k_field_load)

def ct_field_Elem_Encode : Ct := tct (.one (.ints .u64 5)) (.ints .u8 32) fun x => field_Elem_Encode x
def cs_field_Elem_Encode : List (FuncId × Ct) := [(15, ct_field_Elem_Least)]
def gs_field_Elem_Encode : List Gv := []
noncomputable def ls_field_Elem_Encode : List (Nat × Lf) := []
theorem r_field_Elem_Encode : ∀ x, run Tryd.prog (fun g => lkG g (cs_field_Elem_Encode)) (glAt gs_field_Elem_Encode 0) (gs_field_Elem_Encode.length + 0) (memAt gs_field_Elem_Encode 0 ++ (unc gs_field_Elem_Encode.length (Ag.mk ((.one (.ints .u64 5))) x)).2) (fun i => lkL i (ls_field_Elem_Encode)) 100 Tryd.f21 (unc gs_field_Elem_Encode.length (Ag.mk ((.one (.ints .u64 5))) x)).1 none (Pt.get ((.ints .u8 32))) = some (field_Elem_Encode x) := by
  intro x; kernel_rfl
theorem s_field_Elem_Encode {w0 : World}  (h15 : SoundAt Tryd.prog w0 15 ct_field_Elem_Least) : SoundAt Tryd.prog w0 21 ct_field_Elem_Encode := by
  have hcs : ∀ x ∈ cs_field_Elem_Encode, SoundAt Tryd.prog w0 x.1 x.2 := by
    intro x hx
    simp only [cs_field_Elem_Encode, List.mem_cons, List.not_mem_nil, or_false] at hx
    rcases hx with rfl
    · exact h15
  exact sound_tct (fn_printed hcs (glob_nil _ _) Tryd.func21 (by kernel_rfl) (by kernel_rfl) (S := 0) (fun w _ => loopsOK_nil _) (fun _ => rfl) (r_field_Elem_Encode)) fun _ _ => rfl
theorem k_field_Elem_Encode {w0 : World}  : SoundAt Tryd.prog w0 21 ct_field_Elem_Encode :=
  s_field_Elem_Encode (k_field_Elem_Least)

def ct_field_Elem_squares (N : Nat) : Ct := fct (.cons (.ints .u64 5) (.one (.int .i64))) (.ints .u64 5) fun x => field_Elem_squares N x.1 x.2
def cs_field_Elem_squares (N : Nat) : List (FuncId × Ct) := [(42, ct_field_Elem_Square)]
def gs_field_Elem_squares : List Gv := []
def field_Elem_squares_l0_H : Fm ((Unit × Unit × Int × Int)) ((List Int × Unit)) := ⟨(.cons 2 (.lit (.ptr 0 [] 24)) (.cons 4 (.lit (.ptr 1 [] 24)) (.cons 5 (.int .i64) (.one 6 (.int .i64))))), (.cons 0 (.ints .u64 5) (.one 1 (.lit (.ints .u64 5 [0, 0, 0, 0, 0]))))⟩
def field_Elem_squares_l0_O : Fm ((Unit × Unit)) ((List Int × Unit)) := ⟨(.cons 2 (.lit (.ptr 0 [] 24)) (.one 4 (.lit (.ptr 1 [] 24)))), (.cons 0 (.ints .u64 5) (.one 1 (.lit (.ints .u64 5 [0, 0, 0, 0, 0]))))⟩
def field_Elem_squares_l0_T : Fm (Unit) (Unit) := ⟨.nil, .nil⟩
noncomputable def ls_field_Elem_squares (N : Nat) : List (Nat × Lf) := [(0, loopCt field_Elem_squares_l0_H field_Elem_squares_l0_O field_Elem_squares_l0_T 4 (field_Elem_squares_l0 N) N)]
theorem field_Elem_squares_l0_step (N : Nat) : ∀ v, exec Tryd.prog (cxOf Tryd.f67 (cs_field_Elem_squares N) gs_field_Elem_squares 0) (fun i => lkL i (ls_field_Elem_squares N)) 100 none (loopBody Tryd.f67 0) (field_Elem_squares_l0_H.st 4 v) (rdEnd field_Elem_squares_l0_H field_Elem_squares_l0_O field_Elem_squares_l0_T 0) = field_Elem_squares_l0 N v := by
  intro v; kernel_rfl
theorem r_field_Elem_squares (N : Nat) : ∀ x, run Tryd.prog (fun g => lkG g (cs_field_Elem_squares N)) (glAt gs_field_Elem_squares 0) (gs_field_Elem_squares.length + 0) (memAt gs_field_Elem_squares 0 ++ (unc gs_field_Elem_squares.length (Ag.mk ((.cons (.ints .u64 5) (.one (.int .i64)))) x)).2) (fun i => lkL i (ls_field_Elem_squares N)) 100 Tryd.f67 (unc gs_field_Elem_squares.length (Ag.mk ((.cons (.ints .u64 5) (.one (.int .i64)))) x)).1 none (Pt.get ((.ints .u64 5))) = field_Elem_squares N x.1 x.2 := by
  intro x; kernel_rfl
theorem s_field_Elem_squares {w0 : World} (N : Nat)  (h42 : SoundAt Tryd.prog w0 42 ct_field_Elem_Square) : SoundAt Tryd.prog w0 67 (ct_field_Elem_squares N) := by
  have hcs : ∀ x ∈ cs_field_Elem_squares N, SoundAt Tryd.prog w0 x.1 x.2 := by
    intro x hx
    simp only [cs_field_Elem_squares, List.mem_cons, List.not_mem_nil, or_false] at hx
    rcases hx with rfl
    · exact h42
  have L0 : ∀ w, RowKit.Below w0.heap.size w0 w → LoopOK Tryd.prog (cxOf Tryd.f67 (cs_field_Elem_squares N) gs_field_Elem_squares 0) w 0 (.loop (loopBody Tryd.f67 0)) (loopCt field_Elem_squares_l0_H field_Elem_squares_l0_O field_Elem_squares_l0_T 4 (field_Elem_squares_l0 N) N) :=
    loop_printed hcs (ls := ls_field_Elem_squares N) (n := 100) (by kernel_rfl) (field_Elem_squares_l0_step N) N fun w hw => loopsOK_list (by
      intro x hx
      simp only [ls_field_Elem_squares, List.mem_cons, List.not_mem_nil, or_false] at hx
      rcases hx with rfl
      · exact .inl (by kernel_rfl)
    )
  exact fn_printed hcs (glob_nil _ _) Tryd.func67 (by kernel_rfl) (by kernel_rfl) (S := 0) (fun w hw => loopsOK_list (by
    intro x hx
    simp only [ls_field_Elem_squares, List.mem_cons, List.not_mem_nil, or_false] at hx
    rcases hx with rfl
    · exact .inr ⟨_, by kernel_rfl, L0 w hw⟩
  )) (fun _ => rfl) (r_field_Elem_squares N)
theorem k_field_Elem_squares {w0 : World} (N : Nat)  : SoundAt Tryd.prog w0 67 (ct_field_Elem_squares N) :=
  s_field_Elem_squares N (k_field_Elem_Square)

def ct_field_Elem_ones (N : Nat) : Ct := fct (.one (.ints .u64 5)) (.tup (.cons (.ints .u64 5) (.one (.ints .u64 5)))) fun x => field_Elem_ones N x
def cs_field_Elem_ones (N : Nat) : List (FuncId × Ct) := [(40, ct_field_Elem_Mul), (42, ct_field_Elem_Square), (67, (ct_field_Elem_squares N))]
def gs_field_Elem_ones : List Gv := []
noncomputable def ls_field_Elem_ones (N : Nat) : List (Nat × Lf) := []
theorem r_field_Elem_ones (N : Nat) : ∀ x, run Tryd.prog (fun g => lkG g (cs_field_Elem_ones N)) (glAt gs_field_Elem_ones 0) (gs_field_Elem_ones.length + 0) (memAt gs_field_Elem_ones 0 ++ (unc gs_field_Elem_ones.length (Ag.mk ((.one (.ints .u64 5))) x)).2) (fun i => lkL i (ls_field_Elem_ones N)) 100 Tryd.f66 (unc gs_field_Elem_ones.length (Ag.mk ((.one (.ints .u64 5))) x)).1 none (Pt.get ((.tup (.cons (.ints .u64 5) (.one (.ints .u64 5)))))) = field_Elem_ones N x := by
  intro x; kernel_rfl
theorem s_field_Elem_ones {w0 : World} (N : Nat)  (h40 : SoundAt Tryd.prog w0 40 ct_field_Elem_Mul) (h42 : SoundAt Tryd.prog w0 42 ct_field_Elem_Square) (h67 : SoundAt Tryd.prog w0 67 (ct_field_Elem_squares N)) : SoundAt Tryd.prog w0 66 (ct_field_Elem_ones N) := by
  have hcs : ∀ x ∈ cs_field_Elem_ones N, SoundAt Tryd.prog w0 x.1 x.2 := by
    intro x hx
    simp only [cs_field_Elem_ones, List.mem_cons, List.not_mem_nil, or_false] at hx
    rcases hx with rfl | rfl | rfl
    · exact h40
    · exact h42
    · exact h67
  exact fn_printed hcs (glob_nil _ _) Tryd.func66 (by kernel_rfl) (by kernel_rfl) (S := 0) (fun w _ => loopsOK_nil _) (fun _ => rfl) (r_field_Elem_ones N)
theorem k_field_Elem_ones {w0 : World} (N : Nat)  : SoundAt Tryd.prog w0 66 (ct_field_Elem_ones N) :=
  s_field_Elem_ones N (k_field_Elem_Mul) (k_field_Elem_Square) (k_field_Elem_squares N)

def ct_field_Elem_Invert (N : Nat) : Ct := fct (.one (.ints .u64 5)) (.ints .u64 5) fun x => field_Elem_Invert N x
def cs_field_Elem_Invert (N : Nat) : List (FuncId × Ct) := [(40, ct_field_Elem_Mul), (66, (ct_field_Elem_ones N)), (67, (ct_field_Elem_squares N))]
def gs_field_Elem_Invert : List Gv := []
noncomputable def ls_field_Elem_Invert (N : Nat) : List (Nat × Lf) := []
theorem r_field_Elem_Invert (N : Nat) : ∀ x, run Tryd.prog (fun g => lkG g (cs_field_Elem_Invert N)) (glAt gs_field_Elem_Invert 0) (gs_field_Elem_Invert.length + 0) (memAt gs_field_Elem_Invert 0 ++ (unc gs_field_Elem_Invert.length (Ag.mk ((.one (.ints .u64 5))) x)).2) (fun i => lkL i (ls_field_Elem_Invert N)) 100 Tryd.f45 (unc gs_field_Elem_Invert.length (Ag.mk ((.one (.ints .u64 5))) x)).1 none (Pt.get ((.ints .u64 5))) = field_Elem_Invert N x := by
  intro x; kernel_rfl
theorem s_field_Elem_Invert {w0 : World} (N : Nat)  (h40 : SoundAt Tryd.prog w0 40 ct_field_Elem_Mul) (h66 : SoundAt Tryd.prog w0 66 (ct_field_Elem_ones N)) (h67 : SoundAt Tryd.prog w0 67 (ct_field_Elem_squares N)) : SoundAt Tryd.prog w0 45 (ct_field_Elem_Invert N) := by
  have hcs : ∀ x ∈ cs_field_Elem_Invert N, SoundAt Tryd.prog w0 x.1 x.2 := by
    intro x hx
    simp only [cs_field_Elem_Invert, List.mem_cons, List.not_mem_nil, or_false] at hx
    rcases hx with rfl | rfl | rfl
    · exact h40
    · exact h66
    · exact h67
  exact fn_printed hcs (glob_nil _ _) Tryd.func45 (by kernel_rfl) (by kernel_rfl) (S := 0) (fun w _ => loopsOK_nil _) (fun _ => rfl) (r_field_Elem_Invert N)
theorem k_field_Elem_Invert {w0 : World} (N : Nat)  : SoundAt Tryd.prog w0 45 (ct_field_Elem_Invert N) :=
  s_field_Elem_Invert N (k_field_Elem_Mul) (k_field_Elem_ones N) (k_field_Elem_squares N)

def ct_field_Elem_root (N : Nat) : Ct := fct (.one (.ints .u64 5)) (.ints .u64 5) fun x => field_Elem_root N x
def cs_field_Elem_root (N : Nat) : List (FuncId × Ct) := [(40, ct_field_Elem_Mul), (66, (ct_field_Elem_ones N)), (67, (ct_field_Elem_squares N))]
def gs_field_Elem_root : List Gv := []
noncomputable def ls_field_Elem_root (N : Nat) : List (Nat × Lf) := []
theorem r_field_Elem_root (N : Nat) : ∀ x, run Tryd.prog (fun g => lkG g (cs_field_Elem_root N)) (glAt gs_field_Elem_root 0) (gs_field_Elem_root.length + 0) (memAt gs_field_Elem_root 0 ++ (unc gs_field_Elem_root.length (Ag.mk ((.one (.ints .u64 5))) x)).2) (fun i => lkL i (ls_field_Elem_root N)) 100 Tryd.f69 (unc gs_field_Elem_root.length (Ag.mk ((.one (.ints .u64 5))) x)).1 none (Pt.get ((.ints .u64 5))) = field_Elem_root N x := by
  intro x; kernel_rfl
theorem s_field_Elem_root {w0 : World} (N : Nat)  (h40 : SoundAt Tryd.prog w0 40 ct_field_Elem_Mul) (h66 : SoundAt Tryd.prog w0 66 (ct_field_Elem_ones N)) (h67 : SoundAt Tryd.prog w0 67 (ct_field_Elem_squares N)) : SoundAt Tryd.prog w0 69 (ct_field_Elem_root N) := by
  have hcs : ∀ x ∈ cs_field_Elem_root N, SoundAt Tryd.prog w0 x.1 x.2 := by
    intro x hx
    simp only [cs_field_Elem_root, List.mem_cons, List.not_mem_nil, or_false] at hx
    rcases hx with rfl | rfl | rfl
    · exact h40
    · exact h66
    · exact h67
  exact fn_printed hcs (glob_nil _ _) Tryd.func69 (by kernel_rfl) (by kernel_rfl) (S := 0) (fun w _ => loopsOK_nil _) (fun _ => rfl) (r_field_Elem_root N)
theorem k_field_Elem_root {w0 : World} (N : Nat)  : SoundAt Tryd.prog w0 69 (ct_field_Elem_root N) :=
  s_field_Elem_root N (k_field_Elem_Mul) (k_field_Elem_ones N) (k_field_Elem_squares N)

def ct_field_Elem_One : Ct := tct (.one (.ints .u64 5)) (.ints .u64 5) fun x => field_Elem_One x
def cs_field_Elem_One : List (FuncId × Ct) := []
def gs_field_Elem_One : List Gv := []
noncomputable def ls_field_Elem_One : List (Nat × Lf) := []
theorem r_field_Elem_One : ∀ x, run Tryd.prog (fun g => lkG g (cs_field_Elem_One)) (glAt gs_field_Elem_One 0) (gs_field_Elem_One.length + 0) (memAt gs_field_Elem_One 0 ++ (unc gs_field_Elem_One.length (Ag.mk ((.one (.ints .u64 5))) x)).2) (fun i => lkL i (ls_field_Elem_One)) 100 Tryd.f18 (unc gs_field_Elem_One.length (Ag.mk ((.one (.ints .u64 5))) x)).1 none (Pt.get ((.ints .u64 5))) = some (field_Elem_One x) := by
  intro x; kernel_rfl
theorem s_field_Elem_One {w0 : World}  : SoundAt Tryd.prog w0 18 ct_field_Elem_One := by
  have hcs : ∀ x ∈ cs_field_Elem_One, SoundAt Tryd.prog w0 x.1 x.2 := by
    intro x hx
    simp [cs_field_Elem_One] at hx
  exact sound_tct (fn_printed hcs (glob_nil _ _) Tryd.func18 (by kernel_rfl) (by kernel_rfl) (S := 0) (fun w _ => loopsOK_nil _) (fun _ => rfl) (r_field_Elem_One)) fun _ _ => rfl
theorem k_field_Elem_One {w0 : World}  : SoundAt Tryd.prog w0 18 ct_field_Elem_One :=
  s_field_Elem_One

def ct_field_Int : Ct := tct (.one (.int .u64)) (.ints .u64 5) fun x => field_Int x
def cs_field_Int : List (FuncId × Ct) := [(15, ct_field_Elem_Least)]
def gs_field_Int : List Gv := []
noncomputable def ls_field_Int : List (Nat × Lf) := []
theorem r_field_Int : ∀ x, run Tryd.prog (fun g => lkG g (cs_field_Int)) (glAt gs_field_Int 0) (gs_field_Int.length + 0) (memAt gs_field_Int 0 ++ (unc gs_field_Int.length (Ag.mk ((.one (.int .u64))) x)).2) (fun i => lkL i (ls_field_Int)) 100 Tryd.f16 (unc gs_field_Int.length (Ag.mk ((.one (.int .u64))) x)).1 none (Pt.get ((.ints .u64 5))) = some (field_Int x) := by
  intro x; kernel_rfl
theorem s_field_Int {w0 : World}  (h15 : SoundAt Tryd.prog w0 15 ct_field_Elem_Least) : SoundAt Tryd.prog w0 16 ct_field_Int := by
  have hcs : ∀ x ∈ cs_field_Int, SoundAt Tryd.prog w0 x.1 x.2 := by
    intro x hx
    simp only [cs_field_Int, List.mem_cons, List.not_mem_nil, or_false] at hx
    rcases hx with rfl
    · exact h15
  exact sound_tct (fn_printed hcs (glob_nil _ _) Tryd.func16 (by kernel_rfl) (by kernel_rfl) (S := 0) (fun w _ => loopsOK_nil _) (fun _ => rfl) (r_field_Int)) fun _ _ => rfl
theorem k_field_Int {w0 : World}  : SoundAt Tryd.prog w0 16 ct_field_Int :=
  s_field_Int (k_field_Elem_Least)

def ct_field_Elem_Same : Ct := tct (.cons (.ints .u64 5) (.one (.ints .u64 5))) .bool fun x => field_Elem_Same x.1 x.2
def cs_field_Elem_Same : List (FuncId × Ct) := [(15, ct_field_Elem_Least)]
def gs_field_Elem_Same : List Gv := []
noncomputable def ls_field_Elem_Same : List (Nat × Lf) := []
theorem r_field_Elem_Same : ∀ x, run Tryd.prog (fun g => lkG g (cs_field_Elem_Same)) (glAt gs_field_Elem_Same 0) (gs_field_Elem_Same.length + 0) (memAt gs_field_Elem_Same 0 ++ (unc gs_field_Elem_Same.length (Ag.mk ((.cons (.ints .u64 5) (.one (.ints .u64 5)))) x)).2) (fun i => lkL i (ls_field_Elem_Same)) 100 Tryd.f33 (unc gs_field_Elem_Same.length (Ag.mk ((.cons (.ints .u64 5) (.one (.ints .u64 5)))) x)).1 none (Pt.get (.bool)) = some (field_Elem_Same x.1 x.2) := by
  intro x; kernel_rfl
theorem s_field_Elem_Same {w0 : World}  (h15 : SoundAt Tryd.prog w0 15 ct_field_Elem_Least) : SoundAt Tryd.prog w0 33 ct_field_Elem_Same := by
  have hcs : ∀ x ∈ cs_field_Elem_Same, SoundAt Tryd.prog w0 x.1 x.2 := by
    intro x hx
    simp only [cs_field_Elem_Same, List.mem_cons, List.not_mem_nil, or_false] at hx
    rcases hx with rfl
    · exact h15
  exact sound_tct (fn_printed hcs (glob_nil _ _) Tryd.func33 (by kernel_rfl) (by kernel_rfl) (S := 0) (fun w _ => loopsOK_nil _) (fun _ => rfl) (r_field_Elem_Same)) fun _ _ => rfl
theorem k_field_Elem_Same {w0 : World}  : SoundAt Tryd.prog w0 33 ct_field_Elem_Same :=
  s_field_Elem_Same (k_field_Elem_Least)

def ct_field_Elem_IsZero : Ct := tct (.one (.ints .u64 5)) .bool fun x => field_Elem_IsZero x
def cs_field_Elem_IsZero : List (FuncId × Ct) := [(15, ct_field_Elem_Least)]
def gs_field_Elem_IsZero : List Gv := []
noncomputable def ls_field_Elem_IsZero : List (Nat × Lf) := []
theorem r_field_Elem_IsZero : ∀ x, run Tryd.prog (fun g => lkG g (cs_field_Elem_IsZero)) (glAt gs_field_Elem_IsZero 0) (gs_field_Elem_IsZero.length + 0) (memAt gs_field_Elem_IsZero 0 ++ (unc gs_field_Elem_IsZero.length (Ag.mk ((.one (.ints .u64 5))) x)).2) (fun i => lkL i (ls_field_Elem_IsZero)) 100 Tryd.f34 (unc gs_field_Elem_IsZero.length (Ag.mk ((.one (.ints .u64 5))) x)).1 none (Pt.get (.bool)) = some (field_Elem_IsZero x) := by
  intro x; kernel_rfl
theorem s_field_Elem_IsZero {w0 : World}  (h15 : SoundAt Tryd.prog w0 15 ct_field_Elem_Least) : SoundAt Tryd.prog w0 34 ct_field_Elem_IsZero := by
  have hcs : ∀ x ∈ cs_field_Elem_IsZero, SoundAt Tryd.prog w0 x.1 x.2 := by
    intro x hx
    simp only [cs_field_Elem_IsZero, List.mem_cons, List.not_mem_nil, or_false] at hx
    rcases hx with rfl
    · exact h15
  exact sound_tct (fn_printed hcs (glob_nil _ _) Tryd.func34 (by kernel_rfl) (by kernel_rfl) (S := 0) (fun w _ => loopsOK_nil _) (fun _ => rfl) (r_field_Elem_IsZero)) fun _ _ => rfl
theorem k_field_Elem_IsZero {w0 : World}  : SoundAt Tryd.prog w0 34 ct_field_Elem_IsZero :=
  s_field_Elem_IsZero (k_field_Elem_Least)

def ct_field_Elem_Negative : Ct := tct (.one (.ints .u64 5)) .bool fun x => field_Elem_Negative x
def cs_field_Elem_Negative : List (FuncId × Ct) := [(15, ct_field_Elem_Least)]
def gs_field_Elem_Negative : List Gv := []
noncomputable def ls_field_Elem_Negative : List (Nat × Lf) := []
theorem r_field_Elem_Negative : ∀ x, run Tryd.prog (fun g => lkG g (cs_field_Elem_Negative)) (glAt gs_field_Elem_Negative 0) (gs_field_Elem_Negative.length + 0) (memAt gs_field_Elem_Negative 0 ++ (unc gs_field_Elem_Negative.length (Ag.mk ((.one (.ints .u64 5))) x)).2) (fun i => lkL i (ls_field_Elem_Negative)) 100 Tryd.f35 (unc gs_field_Elem_Negative.length (Ag.mk ((.one (.ints .u64 5))) x)).1 none (Pt.get (.bool)) = some (field_Elem_Negative x) := by
  intro x; kernel_rfl
theorem s_field_Elem_Negative {w0 : World}  (h15 : SoundAt Tryd.prog w0 15 ct_field_Elem_Least) : SoundAt Tryd.prog w0 35 ct_field_Elem_Negative := by
  have hcs : ∀ x ∈ cs_field_Elem_Negative, SoundAt Tryd.prog w0 x.1 x.2 := by
    intro x hx
    simp only [cs_field_Elem_Negative, List.mem_cons, List.not_mem_nil, or_false] at hx
    rcases hx with rfl
    · exact h15
  exact sound_tct (fn_printed hcs (glob_nil _ _) Tryd.func35 (by kernel_rfl) (by kernel_rfl) (S := 0) (fun w _ => loopsOK_nil _) (fun _ => rfl) (r_field_Elem_Negative)) fun _ _ => rfl
theorem k_field_Elem_Negative {w0 : World}  : SoundAt Tryd.prog w0 35 ct_field_Elem_Negative :=
  s_field_Elem_Negative (k_field_Elem_Least)

def ct_field_Select : Ct := tct (.cons (.int .i64) (.cons (.ints .u64 5) (.one (.ints .u64 5)))) (.ints .u64 5) fun x => field_Select x.1 x.2.1 x.2.2
def cs_field_Select : List (FuncId × Ct) := [(15, ct_field_Elem_Least)]
def gs_field_Select : List Gv := []
noncomputable def ls_field_Select : List (Nat × Lf) := []
theorem r_field_Select : ∀ x, run Tryd.prog (fun g => lkG g (cs_field_Select)) (glAt gs_field_Select 0) (gs_field_Select.length + 0) (memAt gs_field_Select 0 ++ (unc gs_field_Select.length (Ag.mk ((.cons (.int .i64) (.cons (.ints .u64 5) (.one (.ints .u64 5))))) x)).2) (fun i => lkL i (ls_field_Select)) 100 Tryd.f39 (unc gs_field_Select.length (Ag.mk ((.cons (.int .i64) (.cons (.ints .u64 5) (.one (.ints .u64 5))))) x)).1 none (Pt.get ((.ints .u64 5))) = some (field_Select x.1 x.2.1 x.2.2) := by
  intro x; kernel_rfl
theorem s_field_Select {w0 : World}  (h15 : SoundAt Tryd.prog w0 15 ct_field_Elem_Least) : SoundAt Tryd.prog w0 39 ct_field_Select := by
  have hcs : ∀ x ∈ cs_field_Select, SoundAt Tryd.prog w0 x.1 x.2 := by
    intro x hx
    simp only [cs_field_Select, List.mem_cons, List.not_mem_nil, or_false] at hx
    rcases hx with rfl
    · exact h15
  exact sound_tct (fn_printed hcs (glob_nil _ _) Tryd.func39 (by kernel_rfl) (by kernel_rfl) (S := 0) (fun w _ => loopsOK_nil _) (fun _ => rfl) (r_field_Select)) fun _ _ => rfl
theorem k_field_Select {w0 : World}  : SoundAt Tryd.prog w0 39 ct_field_Select :=
  s_field_Select (k_field_Elem_Least)

def ct_field_Elem_Abs : Ct := tct (.one (.ints .u64 5)) (.ints .u64 5) fun x => field_Elem_Abs x
def cs_field_Elem_Abs : List (FuncId × Ct) := [(15, ct_field_Elem_Least), (31, ct_field_Elem_Neg), (39, ct_field_Select)]
def gs_field_Elem_Abs : List Gv := []
noncomputable def ls_field_Elem_Abs : List (Nat × Lf) := []
theorem r_field_Elem_Abs : ∀ x, run Tryd.prog (fun g => lkG g (cs_field_Elem_Abs)) (glAt gs_field_Elem_Abs 0) (gs_field_Elem_Abs.length + 0) (memAt gs_field_Elem_Abs 0 ++ (unc gs_field_Elem_Abs.length (Ag.mk ((.one (.ints .u64 5))) x)).2) (fun i => lkL i (ls_field_Elem_Abs)) 100 Tryd.f37 (unc gs_field_Elem_Abs.length (Ag.mk ((.one (.ints .u64 5))) x)).1 none (Pt.get ((.ints .u64 5))) = some (field_Elem_Abs x) := by
  intro x; kernel_rfl
theorem s_field_Elem_Abs {w0 : World}  (h15 : SoundAt Tryd.prog w0 15 ct_field_Elem_Least) (h31 : SoundAt Tryd.prog w0 31 ct_field_Elem_Neg) (h39 : SoundAt Tryd.prog w0 39 ct_field_Select) : SoundAt Tryd.prog w0 37 ct_field_Elem_Abs := by
  have hcs : ∀ x ∈ cs_field_Elem_Abs, SoundAt Tryd.prog w0 x.1 x.2 := by
    intro x hx
    simp only [cs_field_Elem_Abs, List.mem_cons, List.not_mem_nil, or_false] at hx
    rcases hx with rfl | rfl | rfl
    · exact h15
    · exact h31
    · exact h39
  exact sound_tct (fn_printed hcs (glob_nil _ _) Tryd.func37 (by kernel_rfl) (by kernel_rfl) (S := 0) (fun w _ => loopsOK_nil _) (fun _ => rfl) (r_field_Elem_Abs)) fun _ _ => rfl
theorem k_field_Elem_Abs {w0 : World}  : SoundAt Tryd.prog w0 37 ct_field_Elem_Abs :=
  s_field_Elem_Abs (k_field_Elem_Least) (k_field_Elem_Neg) (k_field_Select)

def ct_field_Const : Ct := fct (.one (.int .i64)) (.ints .u64 5) fun x => field_Const x
def cs_field_Const : List (FuncId × Ct) := []
def gs_field_Const : List Gv := [⟨2, 72, (.rows 7 fun i => .ints .u64 5 (field_tab i))⟩]
noncomputable def ls_field_Const : List (Nat × Lf) := []
theorem r_field_Const : ∀ x, run Tryd.prog (fun g => lkG g (cs_field_Const)) (glAt gs_field_Const 0) (gs_field_Const.length + 0) (memAt gs_field_Const 0 ++ (unc gs_field_Const.length (Ag.mk ((.one (.int .i64))) x)).2) (fun i => lkL i (ls_field_Const)) 100 Tryd.f19 (unc gs_field_Const.length (Ag.mk ((.one (.int .i64))) x)).1 none (Pt.get ((.ints .u64 5))) = field_Const x := by
  intro x; kernel_rfl
theorem s_field_Const {w0 : World}  (hg : GlobOK Tryd.prog w0 gs_field_Const) : SoundAt Tryd.prog w0 19 ct_field_Const := by
  have hcs : ∀ x ∈ cs_field_Const, SoundAt Tryd.prog w0 x.1 x.2 := by
    intro x hx
    simp [cs_field_Const] at hx
  exact fn_printed hcs hg Tryd.func19 (by kernel_rfl) (by kernel_rfl) (S := 0) (fun w _ => loopsOK_nil _) (fun _ => rfl) (r_field_Const)
theorem k_field_Const {w0 : World}  (hg_field_Const : GlobOK Tryd.prog w0 gs_field_Const) : SoundAt Tryd.prog w0 19 ct_field_Const :=
  s_field_Const hg_field_Const

def ct_field_SqrtRatio (N : Nat) : Ct := fct (.cons (.ints .u64 5) (.one (.ints .u64 5))) (.tup (.cons (.ints .u64 5) (.one .bool))) fun x => field_SqrtRatio N x.1 x.2
def cs_field_SqrtRatio (N : Nat) : List (FuncId × Ct) := [(15, ct_field_Elem_Least), (31, ct_field_Elem_Neg), (37, ct_field_Elem_Abs), (40, ct_field_Elem_Mul), (42, ct_field_Elem_Square), (69, (ct_field_Elem_root N))]
def gs_field_SqrtRatio : List Gv := [⟨2, 72, (.rows 7 fun i => .ints .u64 5 (field_tab i))⟩]
noncomputable def ls_field_SqrtRatio (N : Nat) : List (Nat × Lf) := []
theorem r_field_SqrtRatio (N : Nat) : ∀ x, run Tryd.prog (fun g => lkG g (cs_field_SqrtRatio N)) (glAt gs_field_SqrtRatio 0) (gs_field_SqrtRatio.length + 0) (memAt gs_field_SqrtRatio 0 ++ (unc gs_field_SqrtRatio.length (Ag.mk ((.cons (.ints .u64 5) (.one (.ints .u64 5)))) x)).2) (fun i => lkL i (ls_field_SqrtRatio N)) 100 Tryd.f48 (unc gs_field_SqrtRatio.length (Ag.mk ((.cons (.ints .u64 5) (.one (.ints .u64 5)))) x)).1 none (Pt.get ((.tup (.cons (.ints .u64 5) (.one .bool))))) = field_SqrtRatio N x.1 x.2 := by
  intro x; kernel_rfl
theorem s_field_SqrtRatio {w0 : World} (N : Nat)  (h15 : SoundAt Tryd.prog w0 15 ct_field_Elem_Least) (h31 : SoundAt Tryd.prog w0 31 ct_field_Elem_Neg) (h37 : SoundAt Tryd.prog w0 37 ct_field_Elem_Abs) (h40 : SoundAt Tryd.prog w0 40 ct_field_Elem_Mul) (h42 : SoundAt Tryd.prog w0 42 ct_field_Elem_Square) (h69 : SoundAt Tryd.prog w0 69 (ct_field_Elem_root N)) (hg : GlobOK Tryd.prog w0 gs_field_SqrtRatio) : SoundAt Tryd.prog w0 48 (ct_field_SqrtRatio N) := by
  have hcs : ∀ x ∈ cs_field_SqrtRatio N, SoundAt Tryd.prog w0 x.1 x.2 := by
    intro x hx
    simp only [cs_field_SqrtRatio, List.mem_cons, List.not_mem_nil, or_false] at hx
    rcases hx with rfl | rfl | rfl | rfl | rfl | rfl
    · exact h15
    · exact h31
    · exact h37
    · exact h40
    · exact h42
    · exact h69
  exact fn_printed hcs hg Tryd.func48 (by kernel_rfl) (by kernel_rfl) (S := 0) (fun w _ => loopsOK_nil _) (fun _ => rfl) (r_field_SqrtRatio N)
theorem k_field_SqrtRatio {w0 : World} (N : Nat)  (hg_field_SqrtRatio : GlobOK Tryd.prog w0 gs_field_SqrtRatio) : SoundAt Tryd.prog w0 48 (ct_field_SqrtRatio N) :=
  s_field_SqrtRatio N (k_field_Elem_Least) (k_field_Elem_Neg) (k_field_Elem_Abs) (k_field_Elem_Mul) (k_field_Elem_Square) (k_field_Elem_root N) hg_field_SqrtRatio

def ct_veillaw01_live (N : Nat) : Ct := fct .nil .bool fun x => veillaw01_live N
def cs_veillaw01_live (N : Nat) : List (FuncId × Ct) := [(16, ct_field_Int), (27, ct_field_Elem_Add), (40, ct_field_Elem_Mul), (45, (ct_field_Elem_Invert N))]
def gs_veillaw01_live : List Gv := []
noncomputable def ls_veillaw01_live (N : Nat) : List (Nat × Lf) := []
theorem r_veillaw01_live (N : Nat) : ∀ x, run Tryd.prog (fun g => lkG g (cs_veillaw01_live N)) (glAt gs_veillaw01_live 0) (gs_veillaw01_live.length + 0) (memAt gs_veillaw01_live 0 ++ (unc gs_veillaw01_live.length (Ag.mk (.nil) x)).2) (fun i => lkL i (ls_veillaw01_live N)) 100 Tryd.f47 (unc gs_veillaw01_live.length (Ag.mk (.nil) x)).1 none (Pt.get (.bool)) = veillaw01_live N := by
  intro x; kernel_rfl
theorem s_veillaw01_live {w0 : World} (N : Nat)  (h16 : SoundAt Tryd.prog w0 16 ct_field_Int) (h27 : SoundAt Tryd.prog w0 27 ct_field_Elem_Add) (h40 : SoundAt Tryd.prog w0 40 ct_field_Elem_Mul) (h45 : SoundAt Tryd.prog w0 45 (ct_field_Elem_Invert N)) : SoundAt Tryd.prog w0 47 (ct_veillaw01_live N) := by
  have hcs : ∀ x ∈ cs_veillaw01_live N, SoundAt Tryd.prog w0 x.1 x.2 := by
    intro x hx
    simp only [cs_veillaw01_live, List.mem_cons, List.not_mem_nil, or_false] at hx
    rcases hx with rfl | rfl | rfl | rfl
    · exact h16
    · exact h27
    · exact h40
    · exact h45
  exact fn_printed hcs (glob_nil _ _) Tryd.func47 (by kernel_rfl) (by kernel_rfl) (S := 0) (fun w _ => loopsOK_nil _) (fun _ => rfl) (r_veillaw01_live N)
theorem k_veillaw01_live {w0 : World} (N : Nat)  : SoundAt Tryd.prog w0 47 (ct_veillaw01_live N) :=
  s_veillaw01_live N (k_field_Int) (k_field_Elem_Add) (k_field_Elem_Mul) (k_field_Elem_Invert N)

def ct_veillaw01_least : Ct := tct (.one (.ints .u64 5)) .bool fun x => veillaw01_least x
def cs_veillaw01_least : List (FuncId × Ct) := []
def gs_veillaw01_least : List Gv := []
noncomputable def ls_veillaw01_least : List (Nat × Lf) := []
theorem r_veillaw01_least : ∀ x, run Tryd.prog (fun g => lkG g (cs_veillaw01_least)) (glAt gs_veillaw01_least 0) (gs_veillaw01_least.length + 0) (memAt gs_veillaw01_least 0 ++ (unc gs_veillaw01_least.length (Ag.mk ((.one (.ints .u64 5))) x)).2) (fun i => lkL i (ls_veillaw01_least)) 100 Tryd.f51 (unc gs_veillaw01_least.length (Ag.mk ((.one (.ints .u64 5))) x)).1 none (Pt.get (.bool)) = veillaw01_least_o x := by
  intro x; kernel_rfl
theorem s_veillaw01_least {w0 : World}  : SoundAt Tryd.prog w0 51 ct_veillaw01_least := by
  have hcs : ∀ x ∈ cs_veillaw01_least, SoundAt Tryd.prog w0 x.1 x.2 := by
    intro x hx
    simp [cs_veillaw01_least] at hx
  exact sound_tct (fn_printed hcs (glob_nil _ _) Tryd.func51 (by kernel_rfl) (by kernel_rfl) (S := 0) (fun w _ => loopsOK_nil _) (fun _ => rfl) (r_veillaw01_least)) fun _ _ => veillaw01_least_tot _
theorem k_veillaw01_least {w0 : World}  : SoundAt Tryd.prog w0 51 ct_veillaw01_least :=
  s_veillaw01_least

def ct_field_Elem_Power (N : Nat) : Ct := fct (.cons (.ints .u64 5) (.one (.ints .u8 32))) (.ints .u64 5) fun x => field_Elem_Power N x.1 x.2
def cs_field_Elem_Power (N : Nat) : List (FuncId × Ct) := [(18, ct_field_Elem_One), (40, ct_field_Elem_Mul), (42, ct_field_Elem_Square)]
def gs_field_Elem_Power : List Gv := []
def field_Elem_Power_l0_H : Fm ((Unit × Unit × Unit × Unit × Int)) ((List Int × List Int × Unit × List Int)) := ⟨(.cons 2 (.lit (.ptr 0 [] 24)) (.cons 3 (.lit (.ptr 1 [] 36)) (.cons 4 (.lit (.ptr 2 [] 24)) (.cons 5 (.lit (.ptr 5 [] 24)) (.one 6 (.int .i64)))))), (.cons 0 (.ints .u64 5) (.cons 1 (.ints .u8 32) (.cons 2 (.lit (.ints .u64 5 [0, 0, 0, 0, 0])) (.one 5 (.ints .u64 5)))))⟩
def field_Elem_Power_l0_O : Fm ((Unit × Unit)) ((Unit × List Int)) := ⟨(.cons 4 (.lit (.ptr 2 [] 24)) (.one 5 (.lit (.ptr 5 [] 24)))), (.cons 2 (.lit (.ints .u64 5 [0, 0, 0, 0, 0])) (.one 5 (.ints .u64 5)))⟩
def field_Elem_Power_l0_T : Fm (Unit) (Unit) := ⟨.nil, .nil⟩
noncomputable def ls_field_Elem_Power (N : Nat) : List (Nat × Lf) := [(0, loopCt field_Elem_Power_l0_H field_Elem_Power_l0_O field_Elem_Power_l0_T 8 (field_Elem_Power_l0 N) N)]
theorem field_Elem_Power_l0_step (N : Nat) : ∀ v, exec Tryd.prog (cxOf Tryd.f43 (cs_field_Elem_Power N) gs_field_Elem_Power 0) (fun i => lkL i (ls_field_Elem_Power N)) 100 none (loopBody Tryd.f43 0) (field_Elem_Power_l0_H.st 8 v) (rdEnd field_Elem_Power_l0_H field_Elem_Power_l0_O field_Elem_Power_l0_T 0) = field_Elem_Power_l0 N v := by
  intro v; kernel_rfl
theorem r_field_Elem_Power (N : Nat) : ∀ x, run Tryd.prog (fun g => lkG g (cs_field_Elem_Power N)) (glAt gs_field_Elem_Power 0) (gs_field_Elem_Power.length + 0) (memAt gs_field_Elem_Power 0 ++ (unc gs_field_Elem_Power.length (Ag.mk ((.cons (.ints .u64 5) (.one (.ints .u8 32)))) x)).2) (fun i => lkL i (ls_field_Elem_Power N)) 100 Tryd.f43 (unc gs_field_Elem_Power.length (Ag.mk ((.cons (.ints .u64 5) (.one (.ints .u8 32)))) x)).1 none (Pt.get ((.ints .u64 5))) = field_Elem_Power N x.1 x.2 := by
  intro x; kernel_rfl
theorem s_field_Elem_Power {w0 : World} (N : Nat)  (h18 : SoundAt Tryd.prog w0 18 ct_field_Elem_One) (h40 : SoundAt Tryd.prog w0 40 ct_field_Elem_Mul) (h42 : SoundAt Tryd.prog w0 42 ct_field_Elem_Square) : SoundAt Tryd.prog w0 43 (ct_field_Elem_Power N) := by
  have hcs : ∀ x ∈ cs_field_Elem_Power N, SoundAt Tryd.prog w0 x.1 x.2 := by
    intro x hx
    simp only [cs_field_Elem_Power, List.mem_cons, List.not_mem_nil, or_false] at hx
    rcases hx with rfl | rfl | rfl
    · exact h18
    · exact h40
    · exact h42
  have L0 : ∀ w, RowKit.Below w0.heap.size w0 w → LoopOK Tryd.prog (cxOf Tryd.f43 (cs_field_Elem_Power N) gs_field_Elem_Power 0) w 0 (.loop (loopBody Tryd.f43 0)) (loopCt field_Elem_Power_l0_H field_Elem_Power_l0_O field_Elem_Power_l0_T 8 (field_Elem_Power_l0 N) N) :=
    loop_printed hcs (ls := ls_field_Elem_Power N) (n := 100) (by kernel_rfl) (field_Elem_Power_l0_step N) N fun w hw => loopsOK_list (by
      intro x hx
      simp only [ls_field_Elem_Power, List.mem_cons, List.not_mem_nil, or_false] at hx
      rcases hx with rfl
      · exact .inl (by kernel_rfl)
    )
  exact fn_printed hcs (glob_nil _ _) Tryd.func43 (by kernel_rfl) (by kernel_rfl) (S := 0) (fun w hw => loopsOK_list (by
    intro x hx
    simp only [ls_field_Elem_Power, List.mem_cons, List.not_mem_nil, or_false] at hx
    rcases hx with rfl
    · exact .inr ⟨_, by kernel_rfl, L0 w hw⟩
  )) (fun _ => rfl) (r_field_Elem_Power N)
theorem k_field_Elem_Power {w0 : World} (N : Nat)  : SoundAt Tryd.prog w0 43 (ct_field_Elem_Power N) :=
  s_field_Elem_Power N (k_field_Elem_One) (k_field_Elem_Mul) (k_field_Elem_Square)

def ct_veillaw01_FieldSquares (N : Nat) : Ct := fct (.cons (.ints .u64 5) (.cons (.ints .u64 5) (.one (.ints .u64 5)))) .bool fun x => veillaw01_FieldSquares N x.1 x.2.1 x.2.2
def cs_veillaw01_FieldSquares (N : Nat) : List (FuncId × Ct) := [(15, ct_field_Elem_Least), (18, ct_field_Elem_One), (19, ct_field_Const), (31, ct_field_Elem_Neg), (34, ct_field_Elem_IsZero), (35, ct_field_Elem_Negative), (37, ct_field_Elem_Abs), (40, ct_field_Elem_Mul), (42, ct_field_Elem_Square), (47, (ct_veillaw01_live N)), (48, (ct_field_SqrtRatio N)), (51, ct_veillaw01_least)]
def gs_veillaw01_FieldSquares : List Gv := []
noncomputable def ls_veillaw01_FieldSquares (N : Nat) : List (Nat × Lf) := []
theorem r_veillaw01_FieldSquares (N : Nat) : ∀ x, run Tryd.prog (fun g => lkG g (cs_veillaw01_FieldSquares N)) (glAt gs_veillaw01_FieldSquares 0) (gs_veillaw01_FieldSquares.length + 0) (memAt gs_veillaw01_FieldSquares 0 ++ (unc gs_veillaw01_FieldSquares.length (Ag.mk ((.cons (.ints .u64 5) (.cons (.ints .u64 5) (.one (.ints .u64 5))))) x)).2) (fun i => lkL i (ls_veillaw01_FieldSquares N)) 100 Tryd.f12 (unc gs_veillaw01_FieldSquares.length (Ag.mk ((.cons (.ints .u64 5) (.cons (.ints .u64 5) (.one (.ints .u64 5))))) x)).1 none (Pt.get (.bool)) = veillaw01_FieldSquares N x.1 x.2.1 x.2.2 := by
  intro x; kernel_rfl
theorem s_veillaw01_FieldSquares {w0 : World} (N : Nat)  (h15 : SoundAt Tryd.prog w0 15 ct_field_Elem_Least) (h18 : SoundAt Tryd.prog w0 18 ct_field_Elem_One) (h19 : SoundAt Tryd.prog w0 19 ct_field_Const) (h31 : SoundAt Tryd.prog w0 31 ct_field_Elem_Neg) (h34 : SoundAt Tryd.prog w0 34 ct_field_Elem_IsZero) (h35 : SoundAt Tryd.prog w0 35 ct_field_Elem_Negative) (h37 : SoundAt Tryd.prog w0 37 ct_field_Elem_Abs) (h40 : SoundAt Tryd.prog w0 40 ct_field_Elem_Mul) (h42 : SoundAt Tryd.prog w0 42 ct_field_Elem_Square) (h47 : SoundAt Tryd.prog w0 47 (ct_veillaw01_live N)) (h48 : SoundAt Tryd.prog w0 48 (ct_field_SqrtRatio N)) (h51 : SoundAt Tryd.prog w0 51 ct_veillaw01_least) : SoundAt Tryd.prog w0 12 (ct_veillaw01_FieldSquares N) := by
  have hcs : ∀ x ∈ cs_veillaw01_FieldSquares N, SoundAt Tryd.prog w0 x.1 x.2 := by
    intro x hx
    simp only [cs_veillaw01_FieldSquares, List.mem_cons, List.not_mem_nil, or_false] at hx
    rcases hx with rfl | rfl | rfl | rfl | rfl | rfl | rfl | rfl | rfl | rfl | rfl | rfl
    · exact h15
    · exact h18
    · exact h19
    · exact h31
    · exact h34
    · exact h35
    · exact h37
    · exact h40
    · exact h42
    · exact h47
    · exact h48
    · exact h51
  exact fn_printed hcs (glob_nil _ _) Tryd.func12 (by kernel_rfl) (by kernel_rfl) (S := 0) (fun w _ => loopsOK_nil _) (fun _ => rfl) (r_veillaw01_FieldSquares N)
theorem k_veillaw01_FieldSquares {w0 : World} (N : Nat)  (hg_field_Const : GlobOK Tryd.prog w0 gs_field_Const) (hg_field_SqrtRatio : GlobOK Tryd.prog w0 gs_field_SqrtRatio) : SoundAt Tryd.prog w0 12 (ct_veillaw01_FieldSquares N) :=
  s_veillaw01_FieldSquares N (k_field_Elem_Least) (k_field_Elem_One) (k_field_Const hg_field_Const) (k_field_Elem_Neg) (k_field_Elem_IsZero) (k_field_Elem_Negative) (k_field_Elem_Abs) (k_field_Elem_Mul) (k_field_Elem_Square) (k_veillaw01_live N) (k_field_SqrtRatio N hg_field_SqrtRatio) (k_veillaw01_least)

def ct_veillaw01_FieldConsts (N : Nat) : Ct := fct .nil .bool fun x => veillaw01_FieldConsts N
def cs_veillaw01_FieldConsts (N : Nat) : List (FuncId × Ct) := [(16, ct_field_Int), (19, ct_field_Const), (29, ct_field_Elem_Sub), (31, ct_field_Elem_Neg), (34, ct_field_Elem_IsZero), (35, ct_field_Elem_Negative), (40, ct_field_Elem_Mul), (42, ct_field_Elem_Square), (47, (ct_veillaw01_live N))]
def gs_veillaw01_FieldConsts : List Gv := []
noncomputable def ls_veillaw01_FieldConsts (N : Nat) : List (Nat × Lf) := []
theorem r_veillaw01_FieldConsts (N : Nat) : ∀ x, run Tryd.prog (fun g => lkG g (cs_veillaw01_FieldConsts N)) (glAt gs_veillaw01_FieldConsts 0) (gs_veillaw01_FieldConsts.length + 0) (memAt gs_veillaw01_FieldConsts 0 ++ (unc gs_veillaw01_FieldConsts.length (Ag.mk (.nil) x)).2) (fun i => lkL i (ls_veillaw01_FieldConsts N)) 100 Tryd.f9 (unc gs_veillaw01_FieldConsts.length (Ag.mk (.nil) x)).1 none (Pt.get (.bool)) = veillaw01_FieldConsts N := by
  intro x; kernel_rfl
theorem s_veillaw01_FieldConsts {w0 : World} (N : Nat)  (h16 : SoundAt Tryd.prog w0 16 ct_field_Int) (h19 : SoundAt Tryd.prog w0 19 ct_field_Const) (h29 : SoundAt Tryd.prog w0 29 ct_field_Elem_Sub) (h31 : SoundAt Tryd.prog w0 31 ct_field_Elem_Neg) (h34 : SoundAt Tryd.prog w0 34 ct_field_Elem_IsZero) (h35 : SoundAt Tryd.prog w0 35 ct_field_Elem_Negative) (h40 : SoundAt Tryd.prog w0 40 ct_field_Elem_Mul) (h42 : SoundAt Tryd.prog w0 42 ct_field_Elem_Square) (h47 : SoundAt Tryd.prog w0 47 (ct_veillaw01_live N)) : SoundAt Tryd.prog w0 9 (ct_veillaw01_FieldConsts N) := by
  have hcs : ∀ x ∈ cs_veillaw01_FieldConsts N, SoundAt Tryd.prog w0 x.1 x.2 := by
    intro x hx
    simp only [cs_veillaw01_FieldConsts, List.mem_cons, List.not_mem_nil, or_false] at hx
    rcases hx with rfl | rfl | rfl | rfl | rfl | rfl | rfl | rfl | rfl
    · exact h16
    · exact h19
    · exact h29
    · exact h31
    · exact h34
    · exact h35
    · exact h40
    · exact h42
    · exact h47
  exact fn_printed hcs (glob_nil _ _) Tryd.func9 (by kernel_rfl) (by kernel_rfl) (S := 0) (fun w _ => loopsOK_nil _) (fun _ => rfl) (r_veillaw01_FieldConsts N)
theorem k_veillaw01_FieldConsts {w0 : World} (N : Nat)  (hg_field_Const : GlobOK Tryd.prog w0 gs_field_Const) : SoundAt Tryd.prog w0 9 (ct_veillaw01_FieldConsts N) :=
  s_veillaw01_FieldConsts N (k_field_Int) (k_field_Const hg_field_Const) (k_field_Elem_Sub) (k_field_Elem_Neg) (k_field_Elem_IsZero) (k_field_Elem_Negative) (k_field_Elem_Mul) (k_field_Elem_Square) (k_veillaw01_live N)

def ct_veilref01_below : Ct := tct (.cons (.ints .i64 10) (.one (.ints .i64 10))) .bool fun x => veilref01_below x.1 x.2
def cs_veilref01_below : List (FuncId × Ct) := []
def gs_veilref01_below : List Gv := []
noncomputable def ls_veilref01_below : List (Nat × Lf) := []
theorem r_veilref01_below : ∀ x, run Tryd.prog (fun g => lkG g (cs_veilref01_below)) (glAt gs_veilref01_below 0) (gs_veilref01_below.length + 0) (memAt gs_veilref01_below 0 ++ (unc gs_veilref01_below.length (Ag.mk ((.cons (.ints .i64 10) (.one (.ints .i64 10)))) x)).2) (fun i => lkL i (ls_veilref01_below)) 100 Tryd.f70 (unc gs_veilref01_below.length (Ag.mk ((.cons (.ints .i64 10) (.one (.ints .i64 10)))) x)).1 none (Pt.get (.bool)) = veilref01_below_o x.1 x.2 := by
  intro x; kernel_rfl
theorem s_veilref01_below {w0 : World}  : SoundAt Tryd.prog w0 70 ct_veilref01_below := by
  have hcs : ∀ x ∈ cs_veilref01_below, SoundAt Tryd.prog w0 x.1 x.2 := by
    intro x hx
    simp [cs_veilref01_below] at hx
  exact sound_tct (fn_printed hcs (glob_nil _ _) Tryd.func70 (by kernel_rfl) (by kernel_rfl) (S := 0) (fun w _ => loopsOK_nil _) (fun _ => rfl) (r_veilref01_below)) fun _ _ => veilref01_below_tot _ _
theorem k_veilref01_below {w0 : World}  : SoundAt Tryd.prog w0 70 ct_veilref01_below :=
  s_veilref01_below

def ct_veilref01_minus : Ct := tct (.cons (.ints .i64 10) (.one (.ints .i64 10))) (.ints .i64 10) fun x => veilref01_minus x.1 x.2
def cs_veilref01_minus : List (FuncId × Ct) := []
def gs_veilref01_minus : List Gv := []
noncomputable def ls_veilref01_minus : List (Nat × Lf) := []
theorem r_veilref01_minus : ∀ x, run Tryd.prog (fun g => lkG g (cs_veilref01_minus)) (glAt gs_veilref01_minus 0) (gs_veilref01_minus.length + 0) (memAt gs_veilref01_minus 0 ++ (unc gs_veilref01_minus.length (Ag.mk ((.cons (.ints .i64 10) (.one (.ints .i64 10)))) x)).2) (fun i => lkL i (ls_veilref01_minus)) 100 Tryd.f63 (unc gs_veilref01_minus.length (Ag.mk ((.cons (.ints .i64 10) (.one (.ints .i64 10)))) x)).1 none (Pt.get ((.ints .i64 10))) = some (veilref01_minus x.1 x.2) := by
  intro x; kernel_rfl
theorem s_veilref01_minus {w0 : World}  : SoundAt Tryd.prog w0 63 ct_veilref01_minus := by
  have hcs : ∀ x ∈ cs_veilref01_minus, SoundAt Tryd.prog w0 x.1 x.2 := by
    intro x hx
    simp [cs_veilref01_minus] at hx
  exact sound_tct (fn_printed hcs (glob_nil _ _) Tryd.func63 (by kernel_rfl) (by kernel_rfl) (S := 0) (fun w _ => loopsOK_nil _) (fun _ => rfl) (r_veilref01_minus)) fun _ _ => rfl
theorem k_veilref01_minus {w0 : World}  : SoundAt Tryd.prog w0 63 ct_veilref01_minus :=
  s_veilref01_minus

def ct_veilref01_least (N : Nat) : Ct := fct (.one (.ints .i64 20)) (.ints .i64 10) fun x => veilref01_least N x
def cs_veilref01_least (N : Nat) : List (FuncId × Ct) := [(63, ct_veilref01_minus), (70, ct_veilref01_below)]
def gs_veilref01_least : List Gv := [⟨3, 26, (.ints .i64 10 [67108845, 67108863, 67108863, 67108863, 67108863, 67108863, 67108863, 67108863, 67108863, 2097151])⟩]
def veilref01_least_l4_H : Fm ((Unit × Int × Unit × Bool)) ((Unit × Unit × List Int)) := ⟨(.cons 2 (.lit (.ptr 2 [] 26)) (.cons 3 (.int .i64) (.cons 5 (.lit (.ptr 387 [] 26)) (.one 7 .bool)))), (.cons 0 (.lit (.ints .i64 10 [67108845, 67108863, 67108863, 67108863, 67108863, 67108863, 67108863, 67108863, 67108863, 2097151])) (.cons 2 (.lit (.ints .i64 10 [0, 0, 0, 0, 0, 0, 0, 0, 0, 0])) (.one 387 (.ints .i64 10))))⟩
def veilref01_least_l4_O : Fm ((Unit × Unit)) ((Unit × Unit × List Int)) := ⟨(.cons 2 (.lit (.ptr 2 [] 26)) (.one 5 (.lit (.ptr 387 [] 26)))), (.cons 0 (.lit (.ints .i64 10 [67108845, 67108863, 67108863, 67108863, 67108863, 67108863, 67108863, 67108863, 67108863, 2097151])) (.cons 2 (.lit (.ints .i64 10 [0, 0, 0, 0, 0, 0, 0, 0, 0, 0])) (.one 387 (.ints .i64 10))))⟩
def veilref01_least_l4_T : Fm (Unit) (Unit) := ⟨.nil, .nil⟩
noncomputable def ls_veilref01_least (N : Nat) : List (Nat × Lf) := [(4, loopCt veilref01_least_l4_H veilref01_least_l4_O veilref01_least_l4_T 563 (veilref01_least_l4 N) N)]
theorem veilref01_least_l4_step (N : Nat) : ∀ v, exec Tryd.prog (cxOf Tryd.f55 (cs_veilref01_least N) gs_veilref01_least 0) (fun i => lkL i (ls_veilref01_least N)) 100 none (loopBody Tryd.f55 4) (veilref01_least_l4_H.st 563 v) (rdEnd veilref01_least_l4_H veilref01_least_l4_O veilref01_least_l4_T 4) = veilref01_least_l4 N v := by
  intro v; kernel_rfl
theorem r_veilref01_least (N : Nat) : ∀ x, run Tryd.prog (fun g => lkG g (cs_veilref01_least N)) (glAt gs_veilref01_least 0) (gs_veilref01_least.length + 0) (memAt gs_veilref01_least 0 ++ (unc gs_veilref01_least.length (Ag.mk ((.one (.ints .i64 20))) x)).2) (fun i => lkL i (ls_veilref01_least N)) 100 Tryd.f55 (unc gs_veilref01_least.length (Ag.mk ((.one (.ints .i64 20))) x)).1 none (Pt.get ((.ints .i64 10))) = veilref01_least N x := by
  intro x; kernel_rfl
theorem s_veilref01_least {w0 : World} (N : Nat)  (h63 : SoundAt Tryd.prog w0 63 ct_veilref01_minus) (h70 : SoundAt Tryd.prog w0 70 ct_veilref01_below) (hg : GlobOK Tryd.prog w0 gs_veilref01_least) : SoundAt Tryd.prog w0 55 (ct_veilref01_least N) := by
  have hcs : ∀ x ∈ cs_veilref01_least N, SoundAt Tryd.prog w0 x.1 x.2 := by
    intro x hx
    simp only [cs_veilref01_least, List.mem_cons, List.not_mem_nil, or_false] at hx
    rcases hx with rfl | rfl
    · exact h63
    · exact h70
  have L4 : ∀ w, RowKit.Below w0.heap.size w0 w → LoopOK Tryd.prog (cxOf Tryd.f55 (cs_veilref01_least N) gs_veilref01_least 0) w 4 (.loop (loopBody Tryd.f55 4)) (loopCt veilref01_least_l4_H veilref01_least_l4_O veilref01_least_l4_T 563 (veilref01_least_l4 N) N) :=
    loop_printed hcs (ls := ls_veilref01_least N) (n := 100) (by kernel_rfl) (veilref01_least_l4_step N) N fun w hw => loopsOK_list (by
      intro x hx
      simp only [ls_veilref01_least, List.mem_cons, List.not_mem_nil, or_false] at hx
      rcases hx with rfl
      · exact .inl (by kernel_rfl)
    )
  exact fn_printed hcs hg Tryd.func55 (by kernel_rfl) (by kernel_rfl) (S := 0) (fun w hw => loopsOK_list (by
    intro x hx
    simp only [ls_veilref01_least, List.mem_cons, List.not_mem_nil, or_false] at hx
    rcases hx with rfl
    · exact .inr ⟨_, by kernel_rfl, L4 w hw⟩
  )) (fun _ => rfl) (r_veilref01_least N)
theorem k_veilref01_least {w0 : World} (N : Nat)  (hg_veilref01_least : GlobOK Tryd.prog w0 gs_veilref01_least) : SoundAt Tryd.prog w0 55 (ct_veilref01_least N) :=
  s_veilref01_least N (k_veilref01_minus) (k_veilref01_below) hg_veilref01_least

def ct_veilref01_Of (N : Nat) : Ct := fct (.one (.ints .u64 5)) (.ints .i64 10) fun x => veilref01_Of N x
def cs_veilref01_Of (N : Nat) : List (FuncId × Ct) := [(55, (ct_veilref01_least N))]
def gs_veilref01_Of : List Gv := []
def veilref01_Of_l2_H : Fm ((Unit × Unit × Unit × Int × Int)) ((List Int × Unit × List Int)) := ⟨(.cons 1 (.lit (.ptr 0 [] 23)) (.cons 2 (.lit (.ptr 1 [] 26)) (.cons 3 (.lit (.ptr 2 [] 70)) (.cons 4 (.int .i64) (.one 5 (.int .i64)))))), (.cons 0 (.ints .u64 5) (.cons 1 (.lit (.ints .i64 10 [0, 0, 0, 0, 0, 0, 0, 0, 0, 0])) (.one 2 (.ints .i64 20))))⟩
def veilref01_Of_l2_O : Fm ((Unit × Unit × Unit × Int)) ((List Int × Unit × List Int)) := ⟨(.cons 1 (.lit (.ptr 0 [] 23)) (.cons 2 (.lit (.ptr 1 [] 26)) (.cons 3 (.lit (.ptr 2 [] 70)) (.one 4 (.int .i64))))), (.cons 0 (.ints .u64 5) (.cons 1 (.lit (.ints .i64 10 [0, 0, 0, 0, 0, 0, 0, 0, 0, 0])) (.one 2 (.ints .i64 20))))⟩
def veilref01_Of_l2_T : Fm (Unit) (Unit) := ⟨.nil, .nil⟩
def veilref01_Of_l0_H : Fm ((Unit × Unit × Unit × Int)) ((List Int × Unit × List Int)) := ⟨(.cons 1 (.lit (.ptr 0 [] 23)) (.cons 2 (.lit (.ptr 1 [] 26)) (.cons 3 (.lit (.ptr 2 [] 70)) (.one 4 (.int .i64))))), (.cons 0 (.ints .u64 5) (.cons 1 (.lit (.ints .i64 10 [0, 0, 0, 0, 0, 0, 0, 0, 0, 0])) (.one 2 (.ints .i64 20))))⟩
def veilref01_Of_l0_O : Fm ((Unit × Unit)) ((Unit × List Int)) := ⟨(.cons 2 (.lit (.ptr 1 [] 26)) (.one 3 (.lit (.ptr 2 [] 70)))), (.cons 1 (.lit (.ints .i64 10 [0, 0, 0, 0, 0, 0, 0, 0, 0, 0])) (.one 2 (.ints .i64 20)))⟩
def veilref01_Of_l0_T : Fm (Unit) (Unit) := ⟨.nil, .nil⟩
noncomputable def ls_veilref01_Of (N : Nat) : List (Nat × Lf) := [(2, loopCt veilref01_Of_l2_H veilref01_Of_l2_O veilref01_Of_l2_T 7 (veilref01_Of_l2 N) N), (0, loopCt veilref01_Of_l0_H veilref01_Of_l0_O veilref01_Of_l0_T 4 (veilref01_Of_l0 N) N)]
theorem veilref01_Of_l2_step (N : Nat) : ∀ v, exec Tryd.prog (cxOf Tryd.f52 (cs_veilref01_Of N) gs_veilref01_Of 0) (fun i => lkL i (ls_veilref01_Of N)) 100 none (loopBody Tryd.f52 2) (veilref01_Of_l2_H.st 7 v) (rdEnd veilref01_Of_l2_H veilref01_Of_l2_O veilref01_Of_l2_T 2) = veilref01_Of_l2 N v := by
  intro v; kernel_rfl
theorem veilref01_Of_l0_step (N : Nat) : ∀ v, exec Tryd.prog (cxOf Tryd.f52 (cs_veilref01_Of N) gs_veilref01_Of 0) (fun i => lkL i (ls_veilref01_Of N)) 100 none (loopBody Tryd.f52 0) (veilref01_Of_l0_H.st 4 v) (rdEnd veilref01_Of_l0_H veilref01_Of_l0_O veilref01_Of_l0_T 0) = veilref01_Of_l0 N v := by
  intro v; kernel_rfl
theorem r_veilref01_Of (N : Nat) : ∀ x, run Tryd.prog (fun g => lkG g (cs_veilref01_Of N)) (glAt gs_veilref01_Of 0) (gs_veilref01_Of.length + 0) (memAt gs_veilref01_Of 0 ++ (unc gs_veilref01_Of.length (Ag.mk ((.one (.ints .u64 5))) x)).2) (fun i => lkL i (ls_veilref01_Of N)) 100 Tryd.f52 (unc gs_veilref01_Of.length (Ag.mk ((.one (.ints .u64 5))) x)).1 none (Pt.get ((.ints .i64 10))) = veilref01_Of N x := by
  intro x; kernel_rfl
theorem s_veilref01_Of {w0 : World} (N : Nat)  (h55 : SoundAt Tryd.prog w0 55 (ct_veilref01_least N)) : SoundAt Tryd.prog w0 52 (ct_veilref01_Of N) := by
  have hcs : ∀ x ∈ cs_veilref01_Of N, SoundAt Tryd.prog w0 x.1 x.2 := by
    intro x hx
    simp only [cs_veilref01_Of, List.mem_cons, List.not_mem_nil, or_false] at hx
    rcases hx with rfl
    · exact h55
  have L2 : ∀ w, RowKit.Below w0.heap.size w0 w → LoopOK Tryd.prog (cxOf Tryd.f52 (cs_veilref01_Of N) gs_veilref01_Of 0) w 2 (.loop (loopBody Tryd.f52 2)) (loopCt veilref01_Of_l2_H veilref01_Of_l2_O veilref01_Of_l2_T 7 (veilref01_Of_l2 N) N) :=
    loop_printed hcs (ls := ls_veilref01_Of N) (n := 100) (by kernel_rfl) (veilref01_Of_l2_step N) N fun w hw => loopsOK_list (by
      intro x hx
      simp only [ls_veilref01_Of, List.mem_cons, List.not_mem_nil, or_false] at hx
      rcases hx with rfl | rfl
      · exact .inl (by kernel_rfl)
      · exact .inl (by kernel_rfl)
    )
  have L0 : ∀ w, RowKit.Below w0.heap.size w0 w → LoopOK Tryd.prog (cxOf Tryd.f52 (cs_veilref01_Of N) gs_veilref01_Of 0) w 0 (.loop (loopBody Tryd.f52 0)) (loopCt veilref01_Of_l0_H veilref01_Of_l0_O veilref01_Of_l0_T 4 (veilref01_Of_l0 N) N) :=
    loop_printed hcs (ls := ls_veilref01_Of N) (n := 100) (by kernel_rfl) (veilref01_Of_l0_step N) N fun w hw => loopsOK_list (by
      intro x hx
      simp only [ls_veilref01_Of, List.mem_cons, List.not_mem_nil, or_false] at hx
      rcases hx with rfl | rfl
      · exact .inr ⟨_, by kernel_rfl, L2 w hw⟩
      · exact .inl (by kernel_rfl)
    )
  exact fn_printed hcs (glob_nil _ _) Tryd.func52 (by kernel_rfl) (by kernel_rfl) (S := 0) (fun w hw => loopsOK_list (by
    intro x hx
    simp only [ls_veilref01_Of, List.mem_cons, List.not_mem_nil, or_false] at hx
    rcases hx with rfl | rfl
    · exact .inr ⟨_, by kernel_rfl, L2 w hw⟩
    · exact .inr ⟨_, by kernel_rfl, L0 w hw⟩
  )) (fun _ => rfl) (r_veilref01_Of N)
theorem k_veilref01_Of {w0 : World} (N : Nat)  (hg_veilref01_least : GlobOK Tryd.prog w0 gs_veilref01_least) : SoundAt Tryd.prog w0 52 (ct_veilref01_Of N) :=
  s_veilref01_Of N (k_veilref01_least N hg_veilref01_least)

def ct_veilref01_F_Limbs (N : Nat) : Ct := fct (.one (.ints .i64 10)) (.ints .u64 5) fun x => veilref01_F_Limbs N x
def cs_veilref01_F_Limbs (N : Nat) : List (FuncId × Ct) := []
def gs_veilref01_F_Limbs : List Gv := []
def veilref01_F_Limbs_l0_H : Fm ((Unit × Unit × Unit × Int)) ((List Int × Unit × List Int)) := ⟨(.cons 1 (.lit (.ptr 0 [] 26)) (.cons 2 (.lit (.ptr 1 [] 23)) (.cons 3 (.lit (.ptr 2 [] 23)) (.one 4 (.int .i64))))), (.cons 0 (.ints .i64 10) (.cons 1 (.lit (.ints .u64 5 [0, 0, 0, 0, 0])) (.one 2 (.ints .u64 5))))⟩
def veilref01_F_Limbs_l0_O : Fm ((Unit × Unit)) ((Unit × List Int)) := ⟨(.cons 2 (.lit (.ptr 1 [] 23)) (.one 3 (.lit (.ptr 2 [] 23)))), (.cons 1 (.lit (.ints .u64 5 [0, 0, 0, 0, 0])) (.one 2 (.ints .u64 5)))⟩
def veilref01_F_Limbs_l0_T : Fm (Unit) (Unit) := ⟨.nil, .nil⟩
noncomputable def ls_veilref01_F_Limbs (N : Nat) : List (Nat × Lf) := [(0, loopCt veilref01_F_Limbs_l0_H veilref01_F_Limbs_l0_O veilref01_F_Limbs_l0_T 4 (veilref01_F_Limbs_l0 N) N)]
theorem veilref01_F_Limbs_l0_step (N : Nat) : ∀ v, exec Tryd.prog (cxOf Tryd.f53 (cs_veilref01_F_Limbs N) gs_veilref01_F_Limbs 0) (fun i => lkL i (ls_veilref01_F_Limbs N)) 100 none (loopBody Tryd.f53 0) (veilref01_F_Limbs_l0_H.st 4 v) (rdEnd veilref01_F_Limbs_l0_H veilref01_F_Limbs_l0_O veilref01_F_Limbs_l0_T 0) = veilref01_F_Limbs_l0 N v := by
  intro v; kernel_rfl
theorem r_veilref01_F_Limbs (N : Nat) : ∀ x, run Tryd.prog (fun g => lkG g (cs_veilref01_F_Limbs N)) (glAt gs_veilref01_F_Limbs 0) (gs_veilref01_F_Limbs.length + 0) (memAt gs_veilref01_F_Limbs 0 ++ (unc gs_veilref01_F_Limbs.length (Ag.mk ((.one (.ints .i64 10))) x)).2) (fun i => lkL i (ls_veilref01_F_Limbs N)) 100 Tryd.f53 (unc gs_veilref01_F_Limbs.length (Ag.mk ((.one (.ints .i64 10))) x)).1 none (Pt.get ((.ints .u64 5))) = veilref01_F_Limbs N x := by
  intro x; kernel_rfl
theorem s_veilref01_F_Limbs {w0 : World} (N : Nat)  : SoundAt Tryd.prog w0 53 (ct_veilref01_F_Limbs N) := by
  have hcs : ∀ x ∈ cs_veilref01_F_Limbs N, SoundAt Tryd.prog w0 x.1 x.2 := by
    intro x hx
    simp [cs_veilref01_F_Limbs] at hx
  have L0 : ∀ w, RowKit.Below w0.heap.size w0 w → LoopOK Tryd.prog (cxOf Tryd.f53 (cs_veilref01_F_Limbs N) gs_veilref01_F_Limbs 0) w 0 (.loop (loopBody Tryd.f53 0)) (loopCt veilref01_F_Limbs_l0_H veilref01_F_Limbs_l0_O veilref01_F_Limbs_l0_T 4 (veilref01_F_Limbs_l0 N) N) :=
    loop_printed hcs (ls := ls_veilref01_F_Limbs N) (n := 100) (by kernel_rfl) (veilref01_F_Limbs_l0_step N) N fun w hw => loopsOK_list (by
      intro x hx
      simp only [ls_veilref01_F_Limbs, List.mem_cons, List.not_mem_nil, or_false] at hx
      rcases hx with rfl
      · exact .inl (by kernel_rfl)
    )
  exact fn_printed hcs (glob_nil _ _) Tryd.func53 (by kernel_rfl) (by kernel_rfl) (S := 0) (fun w hw => loopsOK_list (by
    intro x hx
    simp only [ls_veilref01_F_Limbs, List.mem_cons, List.not_mem_nil, or_false] at hx
    rcases hx with rfl
    · exact .inr ⟨_, by kernel_rfl, L0 w hw⟩
  )) (fun _ => rfl) (r_veilref01_F_Limbs N)
theorem k_veilref01_F_Limbs {w0 : World} (N : Nat)  : SoundAt Tryd.prog w0 53 (ct_veilref01_F_Limbs N) :=
  s_veilref01_F_Limbs N

def ct_veilref01_Small (N : Nat) : Ct := fct (.one (.int .u64)) (.ints .i64 10) fun x => veilref01_Small N x
def cs_veilref01_Small (N : Nat) : List (FuncId × Ct) := [(55, (ct_veilref01_least N))]
def gs_veilref01_Small : List Gv := []
noncomputable def ls_veilref01_Small (N : Nat) : List (Nat × Lf) := []
theorem r_veilref01_Small (N : Nat) : ∀ x, run Tryd.prog (fun g => lkG g (cs_veilref01_Small N)) (glAt gs_veilref01_Small 0) (gs_veilref01_Small.length + 0) (memAt gs_veilref01_Small 0 ++ (unc gs_veilref01_Small.length (Ag.mk ((.one (.int .u64))) x)).2) (fun i => lkL i (ls_veilref01_Small N)) 100 Tryd.f17 (unc gs_veilref01_Small.length (Ag.mk ((.one (.int .u64))) x)).1 none (Pt.get ((.ints .i64 10))) = veilref01_Small N x := by
  intro x; kernel_rfl
theorem s_veilref01_Small {w0 : World} (N : Nat)  (h55 : SoundAt Tryd.prog w0 55 (ct_veilref01_least N)) : SoundAt Tryd.prog w0 17 (ct_veilref01_Small N) := by
  have hcs : ∀ x ∈ cs_veilref01_Small N, SoundAt Tryd.prog w0 x.1 x.2 := by
    intro x hx
    simp only [cs_veilref01_Small, List.mem_cons, List.not_mem_nil, or_false] at hx
    rcases hx with rfl
    · exact h55
  exact fn_printed hcs (glob_nil _ _) Tryd.func17 (by kernel_rfl) (by kernel_rfl) (S := 0) (fun w _ => loopsOK_nil _) (fun _ => rfl) (r_veilref01_Small N)
theorem k_veilref01_Small {w0 : World} (N : Nat)  (hg_veilref01_least : GlobOK Tryd.prog w0 gs_veilref01_least) : SoundAt Tryd.prog w0 17 (ct_veilref01_Small N) :=
  s_veilref01_Small N (k_veilref01_least N hg_veilref01_least)

def ct_veilref01_F_Add (N : Nat) : Ct := fct (.cons (.ints .i64 10) (.one (.ints .i64 10))) (.ints .i64 10) fun x => veilref01_F_Add N x.1 x.2
def cs_veilref01_F_Add (N : Nat) : List (FuncId × Ct) := [(55, (ct_veilref01_least N))]
def gs_veilref01_F_Add : List Gv := []
noncomputable def ls_veilref01_F_Add (N : Nat) : List (Nat × Lf) := []
theorem r_veilref01_F_Add (N : Nat) : ∀ x, run Tryd.prog (fun g => lkG g (cs_veilref01_F_Add N)) (glAt gs_veilref01_F_Add 0) (gs_veilref01_F_Add.length + 0) (memAt gs_veilref01_F_Add 0 ++ (unc gs_veilref01_F_Add.length (Ag.mk ((.cons (.ints .i64 10) (.one (.ints .i64 10)))) x)).2) (fun i => lkL i (ls_veilref01_F_Add N)) 100 Tryd.f28 (unc gs_veilref01_F_Add.length (Ag.mk ((.cons (.ints .i64 10) (.one (.ints .i64 10)))) x)).1 none (Pt.get ((.ints .i64 10))) = veilref01_F_Add N x.1 x.2 := by
  intro x; kernel_rfl
theorem s_veilref01_F_Add {w0 : World} (N : Nat)  (h55 : SoundAt Tryd.prog w0 55 (ct_veilref01_least N)) : SoundAt Tryd.prog w0 28 (ct_veilref01_F_Add N) := by
  have hcs : ∀ x ∈ cs_veilref01_F_Add N, SoundAt Tryd.prog w0 x.1 x.2 := by
    intro x hx
    simp only [cs_veilref01_F_Add, List.mem_cons, List.not_mem_nil, or_false] at hx
    rcases hx with rfl
    · exact h55
  exact fn_printed hcs (glob_nil _ _) Tryd.func28 (by kernel_rfl) (by kernel_rfl) (S := 0) (fun w _ => loopsOK_nil _) (fun _ => rfl) (r_veilref01_F_Add N)
theorem k_veilref01_F_Add {w0 : World} (N : Nat)  (hg_veilref01_least : GlobOK Tryd.prog w0 gs_veilref01_least) : SoundAt Tryd.prog w0 28 (ct_veilref01_F_Add N) :=
  s_veilref01_F_Add N (k_veilref01_least N hg_veilref01_least)

def ct_veilref01_F_Neg : Ct := tct (.one (.ints .i64 10)) (.ints .i64 10) fun x => veilref01_F_Neg x
def cs_veilref01_F_Neg : List (FuncId × Ct) := [(63, ct_veilref01_minus)]
def gs_veilref01_F_Neg : List Gv := [⟨1, 26, (.ints .i64 10 [0, 0, 0, 0, 0, 0, 0, 0, 0, 0])⟩, ⟨3, 26, (.ints .i64 10 [67108845, 67108863, 67108863, 67108863, 67108863, 67108863, 67108863, 67108863, 67108863, 2097151])⟩]
noncomputable def ls_veilref01_F_Neg : List (Nat × Lf) := []
theorem r_veilref01_F_Neg : ∀ x, run Tryd.prog (fun g => lkG g (cs_veilref01_F_Neg)) (glAt gs_veilref01_F_Neg 0) (gs_veilref01_F_Neg.length + 0) (memAt gs_veilref01_F_Neg 0 ++ (unc gs_veilref01_F_Neg.length (Ag.mk ((.one (.ints .i64 10))) x)).2) (fun i => lkL i (ls_veilref01_F_Neg)) 100 Tryd.f32 (unc gs_veilref01_F_Neg.length (Ag.mk ((.one (.ints .i64 10))) x)).1 none (Pt.get ((.ints .i64 10))) = veilref01_F_Neg_o x := by
  intro x; kernel_rfl
theorem s_veilref01_F_Neg {w0 : World}  (h63 : SoundAt Tryd.prog w0 63 ct_veilref01_minus) (hg : GlobOK Tryd.prog w0 gs_veilref01_F_Neg) : SoundAt Tryd.prog w0 32 ct_veilref01_F_Neg := by
  have hcs : ∀ x ∈ cs_veilref01_F_Neg, SoundAt Tryd.prog w0 x.1 x.2 := by
    intro x hx
    simp only [cs_veilref01_F_Neg, List.mem_cons, List.not_mem_nil, or_false] at hx
    rcases hx with rfl
    · exact h63
  exact sound_tct (fn_printed hcs hg Tryd.func32 (by kernel_rfl) (by kernel_rfl) (S := 0) (fun w _ => loopsOK_nil _) (fun _ => rfl) (r_veilref01_F_Neg)) fun _ _ => veilref01_F_Neg_tot _
theorem k_veilref01_F_Neg {w0 : World}  (hg_veilref01_F_Neg : GlobOK Tryd.prog w0 gs_veilref01_F_Neg) : SoundAt Tryd.prog w0 32 ct_veilref01_F_Neg :=
  s_veilref01_F_Neg (k_veilref01_minus) hg_veilref01_F_Neg

def ct_veilref01_F_Sub (N : Nat) : Ct := fct (.cons (.ints .i64 10) (.one (.ints .i64 10))) (.ints .i64 10) fun x => veilref01_F_Sub N x.1 x.2
def cs_veilref01_F_Sub (N : Nat) : List (FuncId × Ct) := [(28, (ct_veilref01_F_Add N)), (32, ct_veilref01_F_Neg)]
def gs_veilref01_F_Sub : List Gv := []
noncomputable def ls_veilref01_F_Sub (N : Nat) : List (Nat × Lf) := []
theorem r_veilref01_F_Sub (N : Nat) : ∀ x, run Tryd.prog (fun g => lkG g (cs_veilref01_F_Sub N)) (glAt gs_veilref01_F_Sub 0) (gs_veilref01_F_Sub.length + 0) (memAt gs_veilref01_F_Sub 0 ++ (unc gs_veilref01_F_Sub.length (Ag.mk ((.cons (.ints .i64 10) (.one (.ints .i64 10)))) x)).2) (fun i => lkL i (ls_veilref01_F_Sub N)) 100 Tryd.f30 (unc gs_veilref01_F_Sub.length (Ag.mk ((.cons (.ints .i64 10) (.one (.ints .i64 10)))) x)).1 none (Pt.get ((.ints .i64 10))) = veilref01_F_Sub N x.1 x.2 := by
  intro x; kernel_rfl
theorem s_veilref01_F_Sub {w0 : World} (N : Nat)  (h28 : SoundAt Tryd.prog w0 28 (ct_veilref01_F_Add N)) (h32 : SoundAt Tryd.prog w0 32 ct_veilref01_F_Neg) : SoundAt Tryd.prog w0 30 (ct_veilref01_F_Sub N) := by
  have hcs : ∀ x ∈ cs_veilref01_F_Sub N, SoundAt Tryd.prog w0 x.1 x.2 := by
    intro x hx
    simp only [cs_veilref01_F_Sub, List.mem_cons, List.not_mem_nil, or_false] at hx
    rcases hx with rfl | rfl
    · exact h28
    · exact h32
  exact fn_printed hcs (glob_nil _ _) Tryd.func30 (by kernel_rfl) (by kernel_rfl) (S := 0) (fun w _ => loopsOK_nil _) (fun _ => rfl) (r_veilref01_F_Sub N)
theorem k_veilref01_F_Sub {w0 : World} (N : Nat)  (hg_veilref01_least : GlobOK Tryd.prog w0 gs_veilref01_least) (hg_veilref01_F_Neg : GlobOK Tryd.prog w0 gs_veilref01_F_Neg) : SoundAt Tryd.prog w0 30 (ct_veilref01_F_Sub N) :=
  s_veilref01_F_Sub N (k_veilref01_F_Add N hg_veilref01_least) (k_veilref01_F_Neg hg_veilref01_F_Neg)

def ct_veilref01_F_Mul (N : Nat) : Ct := fct (.cons (.ints .i64 10) (.one (.ints .i64 10))) (.ints .i64 10) fun x => veilref01_F_Mul N x.1 x.2
def cs_veilref01_F_Mul (N : Nat) : List (FuncId × Ct) := [(55, (ct_veilref01_least N))]
def gs_veilref01_F_Mul : List Gv := []
noncomputable def ls_veilref01_F_Mul (N : Nat) : List (Nat × Lf) := []
theorem r_veilref01_F_Mul (N : Nat) : ∀ x, run Tryd.prog (fun g => lkG g (cs_veilref01_F_Mul N)) (glAt gs_veilref01_F_Mul 0) (gs_veilref01_F_Mul.length + 0) (memAt gs_veilref01_F_Mul 0 ++ (unc gs_veilref01_F_Mul.length (Ag.mk ((.cons (.ints .i64 10) (.one (.ints .i64 10)))) x)).2) (fun i => lkL i (ls_veilref01_F_Mul N)) 100 Tryd.f41 (unc gs_veilref01_F_Mul.length (Ag.mk ((.cons (.ints .i64 10) (.one (.ints .i64 10)))) x)).1 none (Pt.get ((.ints .i64 10))) = veilref01_F_Mul N x.1 x.2 := by
  intro x; kernel_rfl
theorem s_veilref01_F_Mul {w0 : World} (N : Nat)  (h55 : SoundAt Tryd.prog w0 55 (ct_veilref01_least N)) : SoundAt Tryd.prog w0 41 (ct_veilref01_F_Mul N) := by
  have hcs : ∀ x ∈ cs_veilref01_F_Mul N, SoundAt Tryd.prog w0 x.1 x.2 := by
    intro x hx
    simp only [cs_veilref01_F_Mul, List.mem_cons, List.not_mem_nil, or_false] at hx
    rcases hx with rfl
    · exact h55
  exact fn_printed hcs (glob_nil _ _) Tryd.func41 (by kernel_rfl) (by kernel_rfl) (S := 0) (fun w _ => loopsOK_nil _) (fun _ => rfl) (r_veilref01_F_Mul N)
theorem k_veilref01_F_Mul {w0 : World} (N : Nat)  (hg_veilref01_least : GlobOK Tryd.prog w0 gs_veilref01_least) : SoundAt Tryd.prog w0 41 (ct_veilref01_F_Mul N) :=
  s_veilref01_F_Mul N (k_veilref01_least N hg_veilref01_least)

def ct_veilref01_F_Power (N : Nat) : Ct := fct (.cons (.ints .i64 10) (.one (.ints .u8 32))) (.ints .i64 10) fun x => veilref01_F_Power N x.1 x.2
def cs_veilref01_F_Power (N : Nat) : List (FuncId × Ct) := [(41, (ct_veilref01_F_Mul N))]
def gs_veilref01_F_Power : List Gv := [⟨0, 26, (.ints .i64 10 [1, 0, 0, 0, 0, 0, 0, 0, 0, 0])⟩]
def veilref01_F_Power_l0_H : Fm ((Unit × Unit × Unit × Unit × Int)) ((Unit × List Int × List Int × Unit × List Int)) := ⟨(.cons 2 (.lit (.ptr 1 [] 26)) (.cons 3 (.lit (.ptr 2 [] 36)) (.cons 4 (.lit (.ptr 3 [] 26)) (.cons 5 (.lit (.ptr 5 [] 26)) (.one 6 (.int .i64)))))), (.cons 0 (.lit (.ints .i64 10 [1, 0, 0, 0, 0, 0, 0, 0, 0, 0])) (.cons 1 (.ints .i64 10) (.cons 2 (.ints .u8 32) (.cons 3 (.lit (.ints .i64 10 [0, 0, 0, 0, 0, 0, 0, 0, 0, 0])) (.one 5 (.ints .i64 10))))))⟩
def veilref01_F_Power_l0_O : Fm ((Unit × Unit)) ((Unit × Unit × List Int)) := ⟨(.cons 4 (.lit (.ptr 3 [] 26)) (.one 5 (.lit (.ptr 5 [] 26)))), (.cons 0 (.lit (.ints .i64 10 [1, 0, 0, 0, 0, 0, 0, 0, 0, 0])) (.cons 3 (.lit (.ints .i64 10 [0, 0, 0, 0, 0, 0, 0, 0, 0, 0])) (.one 5 (.ints .i64 10))))⟩
def veilref01_F_Power_l0_T : Fm (Unit) (Unit) := ⟨.nil, .nil⟩
noncomputable def ls_veilref01_F_Power (N : Nat) : List (Nat × Lf) := [(0, loopCt veilref01_F_Power_l0_H veilref01_F_Power_l0_O veilref01_F_Power_l0_T 8 (veilref01_F_Power_l0 N) N)]
theorem veilref01_F_Power_l0_step (N : Nat) : ∀ v, exec Tryd.prog (cxOf Tryd.f44 (cs_veilref01_F_Power N) gs_veilref01_F_Power 0) (fun i => lkL i (ls_veilref01_F_Power N)) 100 none (loopBody Tryd.f44 0) (veilref01_F_Power_l0_H.st 8 v) (rdEnd veilref01_F_Power_l0_H veilref01_F_Power_l0_O veilref01_F_Power_l0_T 0) = veilref01_F_Power_l0 N v := by
  intro v; kernel_rfl
theorem r_veilref01_F_Power (N : Nat) : ∀ x, run Tryd.prog (fun g => lkG g (cs_veilref01_F_Power N)) (glAt gs_veilref01_F_Power 0) (gs_veilref01_F_Power.length + 0) (memAt gs_veilref01_F_Power 0 ++ (unc gs_veilref01_F_Power.length (Ag.mk ((.cons (.ints .i64 10) (.one (.ints .u8 32)))) x)).2) (fun i => lkL i (ls_veilref01_F_Power N)) 100 Tryd.f44 (unc gs_veilref01_F_Power.length (Ag.mk ((.cons (.ints .i64 10) (.one (.ints .u8 32)))) x)).1 none (Pt.get ((.ints .i64 10))) = veilref01_F_Power N x.1 x.2 := by
  intro x; kernel_rfl
theorem s_veilref01_F_Power {w0 : World} (N : Nat)  (h41 : SoundAt Tryd.prog w0 41 (ct_veilref01_F_Mul N)) (hg : GlobOK Tryd.prog w0 gs_veilref01_F_Power) : SoundAt Tryd.prog w0 44 (ct_veilref01_F_Power N) := by
  have hcs : ∀ x ∈ cs_veilref01_F_Power N, SoundAt Tryd.prog w0 x.1 x.2 := by
    intro x hx
    simp only [cs_veilref01_F_Power, List.mem_cons, List.not_mem_nil, or_false] at hx
    rcases hx with rfl
    · exact h41
  have L0 : ∀ w, RowKit.Below w0.heap.size w0 w → LoopOK Tryd.prog (cxOf Tryd.f44 (cs_veilref01_F_Power N) gs_veilref01_F_Power 0) w 0 (.loop (loopBody Tryd.f44 0)) (loopCt veilref01_F_Power_l0_H veilref01_F_Power_l0_O veilref01_F_Power_l0_T 8 (veilref01_F_Power_l0 N) N) :=
    loop_printed hcs (ls := ls_veilref01_F_Power N) (n := 100) (by kernel_rfl) (veilref01_F_Power_l0_step N) N fun w hw => loopsOK_list (by
      intro x hx
      simp only [ls_veilref01_F_Power, List.mem_cons, List.not_mem_nil, or_false] at hx
      rcases hx with rfl
      · exact .inl (by kernel_rfl)
    )
  exact fn_printed hcs hg Tryd.func44 (by kernel_rfl) (by kernel_rfl) (S := 0) (fun w hw => loopsOK_list (by
    intro x hx
    simp only [ls_veilref01_F_Power, List.mem_cons, List.not_mem_nil, or_false] at hx
    rcases hx with rfl
    · exact .inr ⟨_, by kernel_rfl, L0 w hw⟩
  )) (fun _ => rfl) (r_veilref01_F_Power N)
theorem k_veilref01_F_Power {w0 : World} (N : Nat)  (hg_veilref01_least : GlobOK Tryd.prog w0 gs_veilref01_least) (hg_veilref01_F_Power : GlobOK Tryd.prog w0 gs_veilref01_F_Power) : SoundAt Tryd.prog w0 44 (ct_veilref01_F_Power N) :=
  s_veilref01_F_Power N (k_veilref01_F_Mul N hg_veilref01_least) hg_veilref01_F_Power

def ct_veilref01_F_ones (N : Nat) : Ct := fct (.cons (.ints .i64 10) (.one (.int .i64))) (.ints .i64 10) fun x => veilref01_F_ones N x.1 x.2
def ct_veilref01_F_ones_step (rec : List Int → Int → Option (List Int)) (N : Nat) : Ct := fct (.cons (.ints .i64 10) (.one (.int .i64))) (.ints .i64 10) fun x => veilref01_F_ones_step rec N x.1 x.2
def cs_veilref01_F_ones_step (rec : List Int → Int → Option (List Int)) (N : Nat) : List (FuncId × Ct) := [(41, (ct_veilref01_F_Mul N)), (68, (fct (.cons (.ints .i64 10) (.one (.int .i64))) (.ints .i64 10) fun x => rec x.1 x.2))]
def gs_veilref01_F_ones_step : List Gv := []
def veilref01_F_ones_l0_H : Fm ((Int × Unit × Unit × Unit × Unit × Int)) ((List Int × Unit × List Int × List Int)) := ⟨(.cons 1 (.int .i64) (.cons 2 (.lit (.ptr 0 [] 26)) (.cons 4 (.lit (.ptr 1 [] 26)) (.cons 5 (.lit (.ptr 8 [] 26)) (.cons 6 (.lit (.ptr 11 [] 26)) (.one 7 (.int .i64))))))), (.cons 0 (.ints .i64 10) (.cons 1 (.lit (.ints .i64 10 [0, 0, 0, 0, 0, 0, 0, 0, 0, 0])) (.cons 8 (.ints .i64 10) (.one 11 (.ints .i64 10)))))⟩
def veilref01_F_ones_l0_O : Fm ((Int × Unit × Unit × Unit × Unit)) ((List Int × Unit × List Int × List Int)) := ⟨(.cons 1 (.int .i64) (.cons 2 (.lit (.ptr 0 [] 26)) (.cons 4 (.lit (.ptr 1 [] 26)) (.cons 5 (.lit (.ptr 8 [] 26)) (.one 6 (.lit (.ptr 11 [] 26))))))), (.cons 0 (.ints .i64 10) (.cons 1 (.lit (.ints .i64 10 [0, 0, 0, 0, 0, 0, 0, 0, 0, 0])) (.cons 8 (.ints .i64 10) (.one 11 (.ints .i64 10)))))⟩
def veilref01_F_ones_l0_T : Fm (Unit) (Unit) := ⟨.nil, .nil⟩
noncomputable def ls_veilref01_F_ones_step (rec : List Int → Int → Option (List Int)) (N : Nat) : List (Nat × Lf) := [(0, loopCt veilref01_F_ones_l0_H veilref01_F_ones_l0_O veilref01_F_ones_l0_T 14 (veilref01_F_ones_l0 N) N)]
theorem veilref01_F_ones_l0_step (rec : List Int → Int → Option (List Int)) (N : Nat) : ∀ v, exec Tryd.prog (cxOf Tryd.f68 (cs_veilref01_F_ones_step rec N) gs_veilref01_F_ones_step 0) (fun i => lkL i (ls_veilref01_F_ones_step rec N)) 100 none (loopBody Tryd.f68 0) (veilref01_F_ones_l0_H.st 14 v) (rdEnd veilref01_F_ones_l0_H veilref01_F_ones_l0_O veilref01_F_ones_l0_T 0) = veilref01_F_ones_l0 N v := by
  intro v; kernel_rfl
theorem r_veilref01_F_ones_step (rec : List Int → Int → Option (List Int)) (N : Nat) : ∀ x, run Tryd.prog (fun g => lkG g (cs_veilref01_F_ones_step rec N)) (glAt gs_veilref01_F_ones_step 0) (gs_veilref01_F_ones_step.length + 0) (memAt gs_veilref01_F_ones_step 0 ++ (unc gs_veilref01_F_ones_step.length (Ag.mk ((.cons (.ints .i64 10) (.one (.int .i64)))) x)).2) (fun i => lkL i (ls_veilref01_F_ones_step rec N)) 100 Tryd.f68 (unc gs_veilref01_F_ones_step.length (Ag.mk ((.cons (.ints .i64 10) (.one (.int .i64)))) x)).1 none (Pt.get ((.ints .i64 10))) = veilref01_F_ones_step rec N x.1 x.2 := by
  intro x; kernel_rfl
theorem s_veilref01_F_ones_step {w0 : World} (rec : List Int → Int → Option (List Int)) (N : Nat)  (h41 : SoundAt Tryd.prog w0 41 (ct_veilref01_F_Mul N)) (h68 : SoundAt Tryd.prog w0 68 (fct (.cons (.ints .i64 10) (.one (.int .i64))) (.ints .i64 10) fun x => rec x.1 x.2)) : SoundAt Tryd.prog w0 68 (ct_veilref01_F_ones_step rec N) := by
  have hcs : ∀ x ∈ cs_veilref01_F_ones_step rec N, SoundAt Tryd.prog w0 x.1 x.2 := by
    intro x hx
    simp only [cs_veilref01_F_ones_step, List.mem_cons, List.not_mem_nil, or_false] at hx
    rcases hx with rfl | rfl
    · exact h41
    · exact h68
  have L0 : ∀ w, RowKit.Below w0.heap.size w0 w → LoopOK Tryd.prog (cxOf Tryd.f68 (cs_veilref01_F_ones_step rec N) gs_veilref01_F_ones_step 0) w 0 (.loop (loopBody Tryd.f68 0)) (loopCt veilref01_F_ones_l0_H veilref01_F_ones_l0_O veilref01_F_ones_l0_T 14 (veilref01_F_ones_l0 N) N) :=
    loop_printed hcs (ls := ls_veilref01_F_ones_step rec N) (n := 100) (by kernel_rfl) (veilref01_F_ones_l0_step rec N) N fun w hw => loopsOK_list (by
      intro x hx
      simp only [ls_veilref01_F_ones_step, List.mem_cons, List.not_mem_nil, or_false] at hx
      rcases hx with rfl
      · exact .inl (by kernel_rfl)
    )
  exact fn_printed hcs (glob_nil _ _) Tryd.func68 (by kernel_rfl) (by kernel_rfl) (S := 0) (fun w hw => loopsOK_list (by
    intro x hx
    simp only [ls_veilref01_F_ones_step, List.mem_cons, List.not_mem_nil, or_false] at hx
    rcases hx with rfl
    · exact .inr ⟨_, by kernel_rfl, L0 w hw⟩
  )) (fun _ => rfl) (r_veilref01_F_ones_step rec N)
theorem k_veilref01_F_ones {w0 : World} (N : Nat)  (hg_veilref01_least : GlobOK Tryd.prog w0 gs_veilref01_least) : SoundAt Tryd.prog w0 68 (ct_veilref01_F_ones N) := by
  have h : ∀ m, SoundAt Tryd.prog w0 68 (fct (.cons (.ints .i64 10) (.one (.int .i64))) (.ints .i64 10) fun x => veilref01_F_ones_go N m x.1 x.2) := by
    intro m
    induction m with
    | zero => exact sound_never
    | succ m ih => exact s_veilref01_F_ones_step (veilref01_F_ones_go N m) N (k_veilref01_F_Mul N hg_veilref01_least) ih
  exact h N

def ct_veilref01_F_Invert (N : Nat) : Ct := fct (.one (.ints .i64 10)) (.ints .i64 10) fun x => veilref01_F_Invert N x
def cs_veilref01_F_Invert (N : Nat) : List (FuncId × Ct) := [(41, (ct_veilref01_F_Mul N)), (68, (ct_veilref01_F_ones N))]
def gs_veilref01_F_Invert : List Gv := []
noncomputable def ls_veilref01_F_Invert (N : Nat) : List (Nat × Lf) := []
theorem r_veilref01_F_Invert (N : Nat) : ∀ x, run Tryd.prog (fun g => lkG g (cs_veilref01_F_Invert N)) (glAt gs_veilref01_F_Invert 0) (gs_veilref01_F_Invert.length + 0) (memAt gs_veilref01_F_Invert 0 ++ (unc gs_veilref01_F_Invert.length (Ag.mk ((.one (.ints .i64 10))) x)).2) (fun i => lkL i (ls_veilref01_F_Invert N)) 100 Tryd.f46 (unc gs_veilref01_F_Invert.length (Ag.mk ((.one (.ints .i64 10))) x)).1 none (Pt.get ((.ints .i64 10))) = veilref01_F_Invert N x := by
  intro x; kernel_rfl
theorem s_veilref01_F_Invert {w0 : World} (N : Nat)  (h41 : SoundAt Tryd.prog w0 41 (ct_veilref01_F_Mul N)) (h68 : SoundAt Tryd.prog w0 68 (ct_veilref01_F_ones N)) : SoundAt Tryd.prog w0 46 (ct_veilref01_F_Invert N) := by
  have hcs : ∀ x ∈ cs_veilref01_F_Invert N, SoundAt Tryd.prog w0 x.1 x.2 := by
    intro x hx
    simp only [cs_veilref01_F_Invert, List.mem_cons, List.not_mem_nil, or_false] at hx
    rcases hx with rfl | rfl
    · exact h41
    · exact h68
  exact fn_printed hcs (glob_nil _ _) Tryd.func46 (by kernel_rfl) (by kernel_rfl) (S := 0) (fun w _ => loopsOK_nil _) (fun _ => rfl) (r_veilref01_F_Invert N)
theorem k_veilref01_F_Invert {w0 : World} (N : Nat)  (hg_veilref01_least : GlobOK Tryd.prog w0 gs_veilref01_least) : SoundAt Tryd.prog w0 46 (ct_veilref01_F_Invert N) :=
  s_veilref01_F_Invert N (k_veilref01_F_Mul N hg_veilref01_least) (k_veilref01_F_ones N hg_veilref01_least)

def ct_veilref01_F_Negative : Ct := tct (.one (.ints .i64 10)) .bool fun x => veilref01_F_Negative x
def cs_veilref01_F_Negative : List (FuncId × Ct) := []
def gs_veilref01_F_Negative : List Gv := []
noncomputable def ls_veilref01_F_Negative : List (Nat × Lf) := []
theorem r_veilref01_F_Negative : ∀ x, run Tryd.prog (fun g => lkG g (cs_veilref01_F_Negative)) (glAt gs_veilref01_F_Negative 0) (gs_veilref01_F_Negative.length + 0) (memAt gs_veilref01_F_Negative 0 ++ (unc gs_veilref01_F_Negative.length (Ag.mk ((.one (.ints .i64 10))) x)).2) (fun i => lkL i (ls_veilref01_F_Negative)) 100 Tryd.f36 (unc gs_veilref01_F_Negative.length (Ag.mk ((.one (.ints .i64 10))) x)).1 none (Pt.get (.bool)) = some (veilref01_F_Negative x) := by
  intro x; kernel_rfl
theorem s_veilref01_F_Negative {w0 : World}  : SoundAt Tryd.prog w0 36 ct_veilref01_F_Negative := by
  have hcs : ∀ x ∈ cs_veilref01_F_Negative, SoundAt Tryd.prog w0 x.1 x.2 := by
    intro x hx
    simp [cs_veilref01_F_Negative] at hx
  exact sound_tct (fn_printed hcs (glob_nil _ _) Tryd.func36 (by kernel_rfl) (by kernel_rfl) (S := 0) (fun w _ => loopsOK_nil _) (fun _ => rfl) (r_veilref01_F_Negative)) fun _ _ => rfl
theorem k_veilref01_F_Negative {w0 : World}  : SoundAt Tryd.prog w0 36 ct_veilref01_F_Negative :=
  s_veilref01_F_Negative

def ct_veilref01_F_Abs : Ct := tct (.one (.ints .i64 10)) (.ints .i64 10) fun x => veilref01_F_Abs x
def cs_veilref01_F_Abs : List (FuncId × Ct) := [(32, ct_veilref01_F_Neg)]
def gs_veilref01_F_Abs : List Gv := []
noncomputable def ls_veilref01_F_Abs : List (Nat × Lf) := []
theorem r_veilref01_F_Abs : ∀ x, run Tryd.prog (fun g => lkG g (cs_veilref01_F_Abs)) (glAt gs_veilref01_F_Abs 0) (gs_veilref01_F_Abs.length + 0) (memAt gs_veilref01_F_Abs 0 ++ (unc gs_veilref01_F_Abs.length (Ag.mk ((.one (.ints .i64 10))) x)).2) (fun i => lkL i (ls_veilref01_F_Abs)) 100 Tryd.f38 (unc gs_veilref01_F_Abs.length (Ag.mk ((.one (.ints .i64 10))) x)).1 none (Pt.get ((.ints .i64 10))) = veilref01_F_Abs_o x := by
  intro x; kernel_rfl
theorem s_veilref01_F_Abs {w0 : World}  (h32 : SoundAt Tryd.prog w0 32 ct_veilref01_F_Neg) : SoundAt Tryd.prog w0 38 ct_veilref01_F_Abs := by
  have hcs : ∀ x ∈ cs_veilref01_F_Abs, SoundAt Tryd.prog w0 x.1 x.2 := by
    intro x hx
    simp only [cs_veilref01_F_Abs, List.mem_cons, List.not_mem_nil, or_false] at hx
    rcases hx with rfl
    · exact h32
  exact sound_tct (fn_printed hcs (glob_nil _ _) Tryd.func38 (by kernel_rfl) (by kernel_rfl) (S := 0) (fun w _ => loopsOK_nil _) (fun _ => rfl) (r_veilref01_F_Abs)) fun _ _ => veilref01_F_Abs_tot _
theorem k_veilref01_F_Abs {w0 : World}  (hg_veilref01_F_Neg : GlobOK Tryd.prog w0 gs_veilref01_F_Neg) : SoundAt Tryd.prog w0 38 ct_veilref01_F_Abs :=
  s_veilref01_F_Abs (k_veilref01_F_Neg hg_veilref01_F_Neg)

def ct_veilref01_I : Ct := tct .nil (.ints .i64 10) fun x => veilref01_I
def cs_veilref01_I : List (FuncId × Ct) := []
def gs_veilref01_I : List Gv := []
noncomputable def ls_veilref01_I : List (Nat × Lf) := []
theorem r_veilref01_I : ∀ x, run Tryd.prog (fun g => lkG g (cs_veilref01_I)) (glAt gs_veilref01_I 0) (gs_veilref01_I.length + 0) (memAt gs_veilref01_I 0 ++ (unc gs_veilref01_I.length (Ag.mk (.nil) x)).2) (fun i => lkL i (ls_veilref01_I)) 100 Tryd.f57 (unc gs_veilref01_I.length (Ag.mk (.nil) x)).1 none (Pt.get ((.ints .i64 10))) = some (veilref01_I) := by
  intro x; kernel_rfl
theorem s_veilref01_I {w0 : World}  : SoundAt Tryd.prog w0 57 ct_veilref01_I := by
  have hcs : ∀ x ∈ cs_veilref01_I, SoundAt Tryd.prog w0 x.1 x.2 := by
    intro x hx
    simp [cs_veilref01_I] at hx
  exact sound_tct (fn_printed hcs (glob_nil _ _) Tryd.func57 (by kernel_rfl) (by kernel_rfl) (S := 0) (fun w _ => loopsOK_nil _) (fun _ => rfl) (r_veilref01_I)) fun _ _ => rfl
theorem k_veilref01_I {w0 : World}  : SoundAt Tryd.prog w0 57 ct_veilref01_I :=
  s_veilref01_I

def ct_veilref01_D : Ct := tct .nil (.ints .i64 10) fun x => veilref01_D
def cs_veilref01_D : List (FuncId × Ct) := []
def gs_veilref01_D : List Gv := []
noncomputable def ls_veilref01_D : List (Nat × Lf) := []
theorem r_veilref01_D : ∀ x, run Tryd.prog (fun g => lkG g (cs_veilref01_D)) (glAt gs_veilref01_D 0) (gs_veilref01_D.length + 0) (memAt gs_veilref01_D 0 ++ (unc gs_veilref01_D.length (Ag.mk (.nil) x)).2) (fun i => lkL i (ls_veilref01_D)) 100 Tryd.f56 (unc gs_veilref01_D.length (Ag.mk (.nil) x)).1 none (Pt.get ((.ints .i64 10))) = some (veilref01_D) := by
  intro x; kernel_rfl
theorem s_veilref01_D {w0 : World}  : SoundAt Tryd.prog w0 56 ct_veilref01_D := by
  have hcs : ∀ x ∈ cs_veilref01_D, SoundAt Tryd.prog w0 x.1 x.2 := by
    intro x hx
    simp [cs_veilref01_D] at hx
  exact sound_tct (fn_printed hcs (glob_nil _ _) Tryd.func56 (by kernel_rfl) (by kernel_rfl) (S := 0) (fun w _ => loopsOK_nil _) (fun _ => rfl) (r_veilref01_D)) fun _ _ => rfl
theorem k_veilref01_D {w0 : World}  : SoundAt Tryd.prog w0 56 ct_veilref01_D :=
  s_veilref01_D

def ct_veilref01_root (N : Nat) : Ct := fct (.one (.ints .i64 10)) (.tup (.cons (.ints .i64 10) (.one .bool))) fun x => veilref01_root N x
def cs_veilref01_root (N : Nat) : List (FuncId × Ct) := [(38, ct_veilref01_F_Abs), (41, (ct_veilref01_F_Mul N)), (57, ct_veilref01_I), (68, (ct_veilref01_F_ones N))]
def gs_veilref01_root : List Gv := [⟨1, 26, (.ints .i64 10 [0, 0, 0, 0, 0, 0, 0, 0, 0, 0])⟩]
noncomputable def ls_veilref01_root (N : Nat) : List (Nat × Lf) := []
theorem r_veilref01_root (N : Nat) : ∀ x, run Tryd.prog (fun g => lkG g (cs_veilref01_root N)) (glAt gs_veilref01_root 0) (gs_veilref01_root.length + 0) (memAt gs_veilref01_root 0 ++ (unc gs_veilref01_root.length (Ag.mk ((.one (.ints .i64 10))) x)).2) (fun i => lkL i (ls_veilref01_root N)) 100 Tryd.f58 (unc gs_veilref01_root.length (Ag.mk ((.one (.ints .i64 10))) x)).1 none (Pt.get ((.tup (.cons (.ints .i64 10) (.one .bool))))) = veilref01_root N x := by
  intro x; kernel_rfl
theorem s_veilref01_root {w0 : World} (N : Nat)  (h38 : SoundAt Tryd.prog w0 38 ct_veilref01_F_Abs) (h41 : SoundAt Tryd.prog w0 41 (ct_veilref01_F_Mul N)) (h57 : SoundAt Tryd.prog w0 57 ct_veilref01_I) (h68 : SoundAt Tryd.prog w0 68 (ct_veilref01_F_ones N)) (hg : GlobOK Tryd.prog w0 gs_veilref01_root) : SoundAt Tryd.prog w0 58 (ct_veilref01_root N) := by
  have hcs : ∀ x ∈ cs_veilref01_root N, SoundAt Tryd.prog w0 x.1 x.2 := by
    intro x hx
    simp only [cs_veilref01_root, List.mem_cons, List.not_mem_nil, or_false] at hx
    rcases hx with rfl | rfl | rfl | rfl
    · exact h38
    · exact h41
    · exact h57
    · exact h68
  exact fn_printed hcs hg Tryd.func58 (by kernel_rfl) (by kernel_rfl) (S := 0) (fun w _ => loopsOK_nil _) (fun _ => rfl) (r_veilref01_root N)
theorem k_veilref01_root {w0 : World} (N : Nat)  (hg_veilref01_F_Neg : GlobOK Tryd.prog w0 gs_veilref01_F_Neg) (hg_veilref01_least : GlobOK Tryd.prog w0 gs_veilref01_least) (hg_veilref01_root : GlobOK Tryd.prog w0 gs_veilref01_root) : SoundAt Tryd.prog w0 58 (ct_veilref01_root N) :=
  s_veilref01_root N (k_veilref01_F_Abs hg_veilref01_F_Neg) (k_veilref01_F_Mul N hg_veilref01_least) (k_veilref01_I) (k_veilref01_F_ones N hg_veilref01_least) hg_veilref01_root

def ct_veilref01_SqrtRatio (N : Nat) : Ct := fct (.cons (.ints .i64 10) (.one (.ints .i64 10))) (.tup (.cons (.ints .i64 10) (.one .bool))) fun x => veilref01_SqrtRatio N x.1 x.2
def cs_veilref01_SqrtRatio (N : Nat) : List (FuncId × Ct) := [(41, (ct_veilref01_F_Mul N)), (46, (ct_veilref01_F_Invert N)), (57, ct_veilref01_I), (58, (ct_veilref01_root N))]
def gs_veilref01_SqrtRatio : List Gv := [⟨1, 26, (.ints .i64 10 [0, 0, 0, 0, 0, 0, 0, 0, 0, 0])⟩]
noncomputable def ls_veilref01_SqrtRatio (N : Nat) : List (Nat × Lf) := []
theorem r_veilref01_SqrtRatio (N : Nat) : ∀ x, run Tryd.prog (fun g => lkG g (cs_veilref01_SqrtRatio N)) (glAt gs_veilref01_SqrtRatio 0) (gs_veilref01_SqrtRatio.length + 0) (memAt gs_veilref01_SqrtRatio 0 ++ (unc gs_veilref01_SqrtRatio.length (Ag.mk ((.cons (.ints .i64 10) (.one (.ints .i64 10)))) x)).2) (fun i => lkL i (ls_veilref01_SqrtRatio N)) 100 Tryd.f49 (unc gs_veilref01_SqrtRatio.length (Ag.mk ((.cons (.ints .i64 10) (.one (.ints .i64 10)))) x)).1 none (Pt.get ((.tup (.cons (.ints .i64 10) (.one .bool))))) = veilref01_SqrtRatio N x.1 x.2 := by
  intro x; kernel_rfl
theorem s_veilref01_SqrtRatio {w0 : World} (N : Nat)  (h41 : SoundAt Tryd.prog w0 41 (ct_veilref01_F_Mul N)) (h46 : SoundAt Tryd.prog w0 46 (ct_veilref01_F_Invert N)) (h57 : SoundAt Tryd.prog w0 57 ct_veilref01_I) (h58 : SoundAt Tryd.prog w0 58 (ct_veilref01_root N)) (hg : GlobOK Tryd.prog w0 gs_veilref01_SqrtRatio) : SoundAt Tryd.prog w0 49 (ct_veilref01_SqrtRatio N) := by
  have hcs : ∀ x ∈ cs_veilref01_SqrtRatio N, SoundAt Tryd.prog w0 x.1 x.2 := by
    intro x hx
    simp only [cs_veilref01_SqrtRatio, List.mem_cons, List.not_mem_nil, or_false] at hx
    rcases hx with rfl | rfl | rfl | rfl
    · exact h41
    · exact h46
    · exact h57
    · exact h58
  exact fn_printed hcs hg Tryd.func49 (by kernel_rfl) (by kernel_rfl) (S := 0) (fun w _ => loopsOK_nil _) (fun _ => rfl) (r_veilref01_SqrtRatio N)
theorem k_veilref01_SqrtRatio {w0 : World} (N : Nat)  (hg_veilref01_least : GlobOK Tryd.prog w0 gs_veilref01_least) (hg_veilref01_F_Neg : GlobOK Tryd.prog w0 gs_veilref01_F_Neg) (hg_veilref01_root : GlobOK Tryd.prog w0 gs_veilref01_root) (hg_veilref01_SqrtRatio : GlobOK Tryd.prog w0 gs_veilref01_SqrtRatio) : SoundAt Tryd.prog w0 49 (ct_veilref01_SqrtRatio N) :=
  s_veilref01_SqrtRatio N (k_veilref01_F_Mul N hg_veilref01_least) (k_veilref01_F_Invert N hg_veilref01_least) (k_veilref01_I) (k_veilref01_root N hg_veilref01_F_Neg hg_veilref01_least hg_veilref01_root) hg_veilref01_SqrtRatio

def ct_veilref01_Const (N : Nat) : Ct := fct (.one (.int .i64)) (.ints .i64 10) fun x => veilref01_Const N x
def cs_veilref01_Const (N : Nat) : List (FuncId × Ct) := [(30, (ct_veilref01_F_Sub N)), (32, ct_veilref01_F_Neg), (38, ct_veilref01_F_Abs), (41, (ct_veilref01_F_Mul N)), (46, (ct_veilref01_F_Invert N)), (56, ct_veilref01_D), (57, ct_veilref01_I), (58, (ct_veilref01_root N))]
def gs_veilref01_Const : List Gv := [⟨1, 26, (.ints .i64 10 [0, 0, 0, 0, 0, 0, 0, 0, 0, 0])⟩, ⟨0, 26, (.ints .i64 10 [1, 0, 0, 0, 0, 0, 0, 0, 0, 0])⟩]
noncomputable def ls_veilref01_Const (N : Nat) : List (Nat × Lf) := []
theorem r_veilref01_Const (N : Nat) : ∀ x, run Tryd.prog (fun g => lkG g (cs_veilref01_Const N)) (glAt gs_veilref01_Const 0) (gs_veilref01_Const.length + 0) (memAt gs_veilref01_Const 0 ++ (unc gs_veilref01_Const.length (Ag.mk ((.one (.int .i64))) x)).2) (fun i => lkL i (ls_veilref01_Const N)) 100 Tryd.f20 (unc gs_veilref01_Const.length (Ag.mk ((.one (.int .i64))) x)).1 none (Pt.get ((.ints .i64 10))) = veilref01_Const N x := by
  intro x; kernel_rfl
theorem s_veilref01_Const {w0 : World} (N : Nat)  (h30 : SoundAt Tryd.prog w0 30 (ct_veilref01_F_Sub N)) (h32 : SoundAt Tryd.prog w0 32 ct_veilref01_F_Neg) (h38 : SoundAt Tryd.prog w0 38 ct_veilref01_F_Abs) (h41 : SoundAt Tryd.prog w0 41 (ct_veilref01_F_Mul N)) (h46 : SoundAt Tryd.prog w0 46 (ct_veilref01_F_Invert N)) (h56 : SoundAt Tryd.prog w0 56 ct_veilref01_D) (h57 : SoundAt Tryd.prog w0 57 ct_veilref01_I) (h58 : SoundAt Tryd.prog w0 58 (ct_veilref01_root N)) (hg : GlobOK Tryd.prog w0 gs_veilref01_Const) : SoundAt Tryd.prog w0 20 (ct_veilref01_Const N) := by
  have hcs : ∀ x ∈ cs_veilref01_Const N, SoundAt Tryd.prog w0 x.1 x.2 := by
    intro x hx
    simp only [cs_veilref01_Const, List.mem_cons, List.not_mem_nil, or_false] at hx
    rcases hx with rfl | rfl | rfl | rfl | rfl | rfl | rfl | rfl
    · exact h30
    · exact h32
    · exact h38
    · exact h41
    · exact h46
    · exact h56
    · exact h57
    · exact h58
  exact fn_printed hcs hg Tryd.func20 (by kernel_rfl) (by kernel_rfl) (S := 0) (fun w _ => loopsOK_nil _) (fun _ => rfl) (r_veilref01_Const N)
theorem k_veilref01_Const {w0 : World} (N : Nat)  (hg_veilref01_least : GlobOK Tryd.prog w0 gs_veilref01_least) (hg_veilref01_F_Neg : GlobOK Tryd.prog w0 gs_veilref01_F_Neg) (hg_veilref01_root : GlobOK Tryd.prog w0 gs_veilref01_root) (hg_veilref01_Const : GlobOK Tryd.prog w0 gs_veilref01_Const) : SoundAt Tryd.prog w0 20 (ct_veilref01_Const N) :=
  s_veilref01_Const N (k_veilref01_F_Sub N hg_veilref01_least hg_veilref01_F_Neg) (k_veilref01_F_Neg hg_veilref01_F_Neg) (k_veilref01_F_Abs hg_veilref01_F_Neg) (k_veilref01_F_Mul N hg_veilref01_least) (k_veilref01_F_Invert N hg_veilref01_least) (k_veilref01_D) (k_veilref01_I) (k_veilref01_root N hg_veilref01_F_Neg hg_veilref01_least hg_veilref01_root) hg_veilref01_Const

def ct_veilref01_F_Encode (N : Nat) : Ct := fct (.one (.ints .i64 10)) (.ints .u8 32) fun x => veilref01_F_Encode N x
def cs_veilref01_F_Encode (N : Nat) : List (FuncId × Ct) := []
def gs_veilref01_F_Encode : List Gv := []
def veilref01_F_Encode_l0_H : Fm ((Unit × Unit × Unit × Int)) ((List Int × Unit × List Int)) := ⟨(.cons 1 (.lit (.ptr 0 [] 26)) (.cons 2 (.lit (.ptr 1 [] 36)) (.cons 3 (.lit (.ptr 2 [] 36)) (.one 4 (.int .i64))))), (.cons 0 (.ints .i64 10) (.cons 1 (.lit (.ints .u8 32 [0, 0, 0, 0, 0, 0, 0, 0, 0, 0, 0, 0, 0, 0, 0, 0, 0, 0, 0, 0, 0, 0, 0, 0, 0, 0, 0, 0, 0, 0, 0, 0])) (.one 2 (.ints .u8 32))))⟩
def veilref01_F_Encode_l0_O : Fm ((Unit × Unit)) ((Unit × List Int)) := ⟨(.cons 2 (.lit (.ptr 1 [] 36)) (.one 3 (.lit (.ptr 2 [] 36)))), (.cons 1 (.lit (.ints .u8 32 [0, 0, 0, 0, 0, 0, 0, 0, 0, 0, 0, 0, 0, 0, 0, 0, 0, 0, 0, 0, 0, 0, 0, 0, 0, 0, 0, 0, 0, 0, 0, 0])) (.one 2 (.ints .u8 32)))⟩
def veilref01_F_Encode_l0_T : Fm (Unit) (Unit) := ⟨.nil, .nil⟩
noncomputable def ls_veilref01_F_Encode (N : Nat) : List (Nat × Lf) := [(0, loopCt veilref01_F_Encode_l0_H veilref01_F_Encode_l0_O veilref01_F_Encode_l0_T 4 (veilref01_F_Encode_l0 N) N)]
theorem veilref01_F_Encode_l0_step (N : Nat) : ∀ v, exec Tryd.prog (cxOf Tryd.f22 (cs_veilref01_F_Encode N) gs_veilref01_F_Encode 0) (fun i => lkL i (ls_veilref01_F_Encode N)) 100 none (loopBody Tryd.f22 0) (veilref01_F_Encode_l0_H.st 4 v) (rdEnd veilref01_F_Encode_l0_H veilref01_F_Encode_l0_O veilref01_F_Encode_l0_T 0) = veilref01_F_Encode_l0 N v := by
  intro v; kernel_rfl
theorem r_veilref01_F_Encode (N : Nat) : ∀ x, run Tryd.prog (fun g => lkG g (cs_veilref01_F_Encode N)) (glAt gs_veilref01_F_Encode 0) (gs_veilref01_F_Encode.length + 0) (memAt gs_veilref01_F_Encode 0 ++ (unc gs_veilref01_F_Encode.length (Ag.mk ((.one (.ints .i64 10))) x)).2) (fun i => lkL i (ls_veilref01_F_Encode N)) 100 Tryd.f22 (unc gs_veilref01_F_Encode.length (Ag.mk ((.one (.ints .i64 10))) x)).1 none (Pt.get ((.ints .u8 32))) = veilref01_F_Encode N x := by
  intro x; kernel_rfl
theorem s_veilref01_F_Encode {w0 : World} (N : Nat)  : SoundAt Tryd.prog w0 22 (ct_veilref01_F_Encode N) := by
  have hcs : ∀ x ∈ cs_veilref01_F_Encode N, SoundAt Tryd.prog w0 x.1 x.2 := by
    intro x hx
    simp [cs_veilref01_F_Encode] at hx
  have L0 : ∀ w, RowKit.Below w0.heap.size w0 w → LoopOK Tryd.prog (cxOf Tryd.f22 (cs_veilref01_F_Encode N) gs_veilref01_F_Encode 0) w 0 (.loop (loopBody Tryd.f22 0)) (loopCt veilref01_F_Encode_l0_H veilref01_F_Encode_l0_O veilref01_F_Encode_l0_T 4 (veilref01_F_Encode_l0 N) N) :=
    loop_printed hcs (ls := ls_veilref01_F_Encode N) (n := 100) (by kernel_rfl) (veilref01_F_Encode_l0_step N) N fun w hw => loopsOK_list (by
      intro x hx
      simp only [ls_veilref01_F_Encode, List.mem_cons, List.not_mem_nil, or_false] at hx
      rcases hx with rfl
      · exact .inl (by kernel_rfl)
    )
  exact fn_printed hcs (glob_nil _ _) Tryd.func22 (by kernel_rfl) (by kernel_rfl) (S := 0) (fun w hw => loopsOK_list (by
    intro x hx
    simp only [ls_veilref01_F_Encode, List.mem_cons, List.not_mem_nil, or_false] at hx
    rcases hx with rfl
    · exact .inr ⟨_, by kernel_rfl, L0 w hw⟩
  )) (fun _ => rfl) (r_veilref01_F_Encode N)
theorem k_veilref01_F_Encode {w0 : World} (N : Nat)  : SoundAt Tryd.prog w0 22 (ct_veilref01_F_Encode N) :=
  s_veilref01_F_Encode N

def ct_veilref01_Number (N : Nat) : Ct := fct (.one (.tup (.cons (.lst .u8) (.one (.lit (.clo 5 [])))))) (.ints .i64 10) fun x => veilref01_Number N x
def cs_veilref01_Number (N : Nat) : List (FuncId × Ct) := [(55, (ct_veilref01_least N))]
def gs_veilref01_Number : List Gv := []
def veilref01_Number_l0_H : Fm (((Nat × Nat) × Unit × Unit × Int)) (((Nat × List Int) × Unit × List Int)) := ⟨(.cons 0 (.slw 0 5) (.cons 2 (.lit (.ptr 1 [] 26)) (.cons 3 (.lit (.ptr 2 [] 70)) (.one 4 (.int .i64))))), (.cons 0 (.lst .u8) (.cons 1 (.lit (.ints .i64 10 [0, 0, 0, 0, 0, 0, 0, 0, 0, 0])) (.one 2 (.ints .i64 20))))⟩
def veilref01_Number_l0_O : Fm ((Unit × Unit)) ((Unit × List Int)) := ⟨(.cons 2 (.lit (.ptr 1 [] 26)) (.one 3 (.lit (.ptr 2 [] 70)))), (.cons 1 (.lit (.ints .i64 10 [0, 0, 0, 0, 0, 0, 0, 0, 0, 0])) (.one 2 (.ints .i64 20)))⟩
def veilref01_Number_l0_T : Fm (Unit) (Unit) := ⟨.nil, .nil⟩
noncomputable def ls_veilref01_Number (N : Nat) : List (Nat × Lf) := [(0, loopCt veilref01_Number_l0_H veilref01_Number_l0_O veilref01_Number_l0_T 4 (veilref01_Number_l0 N) N)]
theorem veilref01_Number_l0_step (N : Nat) : ∀ v, exec Tryd.prog (cxOf Tryd.f60 (cs_veilref01_Number N) gs_veilref01_Number 1) (fun i => lkL i (ls_veilref01_Number N)) 100 none (loopBody Tryd.f60 0) (veilref01_Number_l0_H.st 4 v) (rdEnd veilref01_Number_l0_H veilref01_Number_l0_O veilref01_Number_l0_T 0) = veilref01_Number_l0 N v := by
  intro v; kernel_rfl
theorem r_veilref01_Number (N : Nat) : ∀ x, run Tryd.prog (fun g => lkG g (cs_veilref01_Number N)) (glAt gs_veilref01_Number 0) (gs_veilref01_Number.length + 1) (memAt gs_veilref01_Number 0 ++ (unc gs_veilref01_Number.length (Ag.mk ((.one (.tup (.cons (.lst .u8) (.one (.lit (.clo 5 []))))))) x)).2) (fun i => lkL i (ls_veilref01_Number N)) 100 Tryd.f60 (unc gs_veilref01_Number.length (Ag.mk ((.one (.tup (.cons (.lst .u8) (.one (.lit (.clo 5 []))))))) x)).1 none (Pt.get ((.ints .i64 10))) = veilref01_Number N x := by
  intro x; kernel_rfl
theorem s_veilref01_Number {w0 : World} (N : Nat)  (h55 : SoundAt Tryd.prog w0 55 (ct_veilref01_least N)) : SoundAt Tryd.prog w0 60 (ct_veilref01_Number N) := by
  have hcs : ∀ x ∈ cs_veilref01_Number N, SoundAt Tryd.prog w0 x.1 x.2 := by
    intro x hx
    simp only [cs_veilref01_Number, List.mem_cons, List.not_mem_nil, or_false] at hx
    rcases hx with rfl
    · exact h55
  have L0 : ∀ w, RowKit.Below w0.heap.size w0 w → LoopOK Tryd.prog (cxOf Tryd.f60 (cs_veilref01_Number N) gs_veilref01_Number 1) w 0 (.loop (loopBody Tryd.f60 0)) (loopCt veilref01_Number_l0_H veilref01_Number_l0_O veilref01_Number_l0_T 4 (veilref01_Number_l0 N) N) :=
    loop_printed hcs (ls := ls_veilref01_Number N) (n := 100) (by kernel_rfl) (veilref01_Number_l0_step N) N fun w hw => loopsOK_list (by
      intro x hx
      simp only [ls_veilref01_Number, List.mem_cons, List.not_mem_nil, or_false] at hx
      rcases hx with rfl
      · exact .inl (by kernel_rfl)
    )
  exact fn_printed hcs (glob_nil _ _) Tryd.func60 (by kernel_rfl) (by kernel_rfl) (S := 1) (fun w hw => loopsOK_list (by
    intro x hx
    simp only [ls_veilref01_Number, List.mem_cons, List.not_mem_nil, or_false] at hx
    rcases hx with rfl
    · exact .inr ⟨_, by kernel_rfl, L0 w hw⟩
  )) (fun _ => rfl) (r_veilref01_Number N)
theorem k_veilref01_Number {w0 : World} (N : Nat)  (hg_veilref01_least : GlobOK Tryd.prog w0 gs_veilref01_least) : SoundAt Tryd.prog w0 60 (ct_veilref01_Number N) :=
  s_veilref01_Number N (k_veilref01_least N hg_veilref01_least)

def ct_veilref01_Decode (N : Nat) : Ct := fct (.one (.ints .u8 32)) (.tup (.cons (.ints .i64 10) (.one (.int .i64)))) fun x => veilref01_Decode N x
def cs_veilref01_Decode (N : Nat) : List (FuncId × Ct) := [(22, (ct_veilref01_F_Encode N)), (60, (ct_veilref01_Number N))]
def gs_veilref01_Decode : List Gv := []
noncomputable def ls_veilref01_Decode (N : Nat) : List (Nat × Lf) := []
theorem r_veilref01_Decode (N : Nat) : ∀ x, run Tryd.prog (fun g => lkG g (cs_veilref01_Decode N)) (glAt gs_veilref01_Decode 0) (gs_veilref01_Decode.length + 0) (memAt gs_veilref01_Decode 0 ++ (unc gs_veilref01_Decode.length (Ag.mk ((.one (.ints .u8 32))) x)).2) (fun i => lkL i (ls_veilref01_Decode N)) 100 Tryd.f24 (unc gs_veilref01_Decode.length (Ag.mk ((.one (.ints .u8 32))) x)).1 none (Pt.get ((.tup (.cons (.ints .i64 10) (.one (.int .i64)))))) = veilref01_Decode N x := by
  intro x; kernel_rfl
theorem s_veilref01_Decode {w0 : World} (N : Nat)  (h22 : SoundAt Tryd.prog w0 22 (ct_veilref01_F_Encode N)) (h60 : SoundAt Tryd.prog w0 60 (ct_veilref01_Number N)) : SoundAt Tryd.prog w0 24 (ct_veilref01_Decode N) := by
  have hcs : ∀ x ∈ cs_veilref01_Decode N, SoundAt Tryd.prog w0 x.1 x.2 := by
    intro x hx
    simp only [cs_veilref01_Decode, List.mem_cons, List.not_mem_nil, or_false] at hx
    rcases hx with rfl | rfl
    · exact h22
    · exact h60
  exact fn_printed hcs (glob_nil _ _) Tryd.func24 (by kernel_rfl) (by kernel_rfl) (S := 0) (fun w _ => loopsOK_nil _) (fun _ => rfl) (r_veilref01_Decode N)
theorem k_veilref01_Decode {w0 : World} (N : Nat)  (hg_veilref01_least : GlobOK Tryd.prog w0 gs_veilref01_least) : SoundAt Tryd.prog w0 24 (ct_veilref01_Decode N) :=
  s_veilref01_Decode N (k_veilref01_F_Encode N) (k_veilref01_Number N hg_veilref01_least)

def ct_veilref01_Reduce (N : Nat) : Ct := fct (.one (.ints .u8 32)) (.ints .i64 10) fun x => veilref01_Reduce N x
def cs_veilref01_Reduce (N : Nat) : List (FuncId × Ct) := [(60, (ct_veilref01_Number N))]
def gs_veilref01_Reduce : List Gv := []
noncomputable def ls_veilref01_Reduce (N : Nat) : List (Nat × Lf) := []
theorem r_veilref01_Reduce (N : Nat) : ∀ x, run Tryd.prog (fun g => lkG g (cs_veilref01_Reduce N)) (glAt gs_veilref01_Reduce 0) (gs_veilref01_Reduce.length + 0) (memAt gs_veilref01_Reduce 0 ++ (unc gs_veilref01_Reduce.length (Ag.mk ((.one (.ints .u8 32))) x)).2) (fun i => lkL i (ls_veilref01_Reduce N)) 100 Tryd.f26 (unc gs_veilref01_Reduce.length (Ag.mk ((.one (.ints .u8 32))) x)).1 none (Pt.get ((.ints .i64 10))) = veilref01_Reduce N x := by
  intro x; kernel_rfl
theorem s_veilref01_Reduce {w0 : World} (N : Nat)  (h60 : SoundAt Tryd.prog w0 60 (ct_veilref01_Number N)) : SoundAt Tryd.prog w0 26 (ct_veilref01_Reduce N) := by
  have hcs : ∀ x ∈ cs_veilref01_Reduce N, SoundAt Tryd.prog w0 x.1 x.2 := by
    intro x hx
    simp only [cs_veilref01_Reduce, List.mem_cons, List.not_mem_nil, or_false] at hx
    rcases hx with rfl
    · exact h60
  exact fn_printed hcs (glob_nil _ _) Tryd.func26 (by kernel_rfl) (by kernel_rfl) (S := 0) (fun w _ => loopsOK_nil _) (fun _ => rfl) (r_veilref01_Reduce N)
theorem k_veilref01_Reduce {w0 : World} (N : Nat)  (hg_veilref01_least : GlobOK Tryd.prog w0 gs_veilref01_least) : SoundAt Tryd.prog w0 26 (ct_veilref01_Reduce N) :=
  s_veilref01_Reduce N (k_veilref01_Number N hg_veilref01_least)

def ct_veillaw01_of (N : Nat) : Ct := fct (.one (.ints .u64 5)) (.ints .i64 10) fun x => veillaw01_of N x
def cs_veillaw01_of (N : Nat) : List (FuncId × Ct) := [(52, (ct_veilref01_Of N))]
def gs_veillaw01_of : List Gv := []
noncomputable def ls_veillaw01_of (N : Nat) : List (Nat × Lf) := []
theorem r_veillaw01_of (N : Nat) : ∀ x, run Tryd.prog (fun g => lkG g (cs_veillaw01_of N)) (glAt gs_veillaw01_of 0) (gs_veillaw01_of.length + 0) (memAt gs_veillaw01_of 0 ++ (unc gs_veillaw01_of.length (Ag.mk ((.one (.ints .u64 5))) x)).2) (fun i => lkL i (ls_veillaw01_of N)) 100 Tryd.f13 (unc gs_veillaw01_of.length (Ag.mk ((.one (.ints .u64 5))) x)).1 none (Pt.get ((.ints .i64 10))) = veillaw01_of N x := by
  intro x; kernel_rfl
theorem s_veillaw01_of {w0 : World} (N : Nat)  (h52 : SoundAt Tryd.prog w0 52 (ct_veilref01_Of N)) : SoundAt Tryd.prog w0 13 (ct_veillaw01_of N) := by
  have hcs : ∀ x ∈ cs_veillaw01_of N, SoundAt Tryd.prog w0 x.1 x.2 := by
    intro x hx
    simp only [cs_veillaw01_of, List.mem_cons, List.not_mem_nil, or_false] at hx
    rcases hx with rfl
    · exact h52
  exact fn_printed hcs (glob_nil _ _) Tryd.func13 (by kernel_rfl) (by kernel_rfl) (S := 0) (fun w _ => loopsOK_nil _) (fun _ => rfl) (r_veillaw01_of N)
theorem k_veillaw01_of {w0 : World} (N : Nat)  (hg_veilref01_least : GlobOK Tryd.prog w0 gs_veilref01_least) : SoundAt Tryd.prog w0 13 (ct_veillaw01_of N) :=
  s_veillaw01_of N (k_veilref01_Of N hg_veilref01_least)

def ct_veillaw01_is (N : Nat) : Ct := fct (.cons (.ints .u64 5) (.one (.ints .i64 10))) .bool fun x => veillaw01_is N x.1 x.2
def cs_veillaw01_is (N : Nat) : List (FuncId × Ct) := [(53, (ct_veilref01_F_Limbs N))]
def gs_veillaw01_is : List Gv := []
noncomputable def ls_veillaw01_is (N : Nat) : List (Nat × Lf) := []
theorem r_veillaw01_is (N : Nat) : ∀ x, run Tryd.prog (fun g => lkG g (cs_veillaw01_is N)) (glAt gs_veillaw01_is 0) (gs_veillaw01_is.length + 0) (memAt gs_veillaw01_is 0 ++ (unc gs_veillaw01_is.length (Ag.mk ((.cons (.ints .u64 5) (.one (.ints .i64 10)))) x)).2) (fun i => lkL i (ls_veillaw01_is N)) 100 Tryd.f14 (unc gs_veillaw01_is.length (Ag.mk ((.cons (.ints .u64 5) (.one (.ints .i64 10)))) x)).1 none (Pt.get (.bool)) = veillaw01_is N x.1 x.2 := by
  intro x; kernel_rfl
theorem s_veillaw01_is {w0 : World} (N : Nat)  (h53 : SoundAt Tryd.prog w0 53 (ct_veilref01_F_Limbs N)) : SoundAt Tryd.prog w0 14 (ct_veillaw01_is N) := by
  have hcs : ∀ x ∈ cs_veillaw01_is N, SoundAt Tryd.prog w0 x.1 x.2 := by
    intro x hx
    simp only [cs_veillaw01_is, List.mem_cons, List.not_mem_nil, or_false] at hx
    rcases hx with rfl
    · exact h53
  exact fn_printed hcs (glob_nil _ _) Tryd.func14 (by kernel_rfl) (by kernel_rfl) (S := 0) (fun w _ => loopsOK_nil _) (fun _ => rfl) (r_veillaw01_is N)
theorem k_veillaw01_is {w0 : World} (N : Nat)  : SoundAt Tryd.prog w0 14 (ct_veillaw01_is N) :=
  s_veillaw01_is N (k_veilref01_F_Limbs N)

def ct_veillaw01_FieldLeast (N : Nat) : Ct := fct (.cons (.ints .u64 5) (.cons (.int .u64) (.one (.int .i64)))) .bool fun x => veillaw01_FieldLeast N x.1 x.2.1 x.2.2
def cs_veillaw01_FieldLeast (N : Nat) : List (FuncId × Ct) := [(13, (ct_veillaw01_of N)), (14, (ct_veillaw01_is N)), (15, ct_field_Elem_Least), (16, ct_field_Int), (17, (ct_veilref01_Small N)), (18, ct_field_Elem_One), (19, ct_field_Const), (20, (ct_veilref01_Const N))]
def gs_veillaw01_FieldLeast : List Gv := [⟨0, 26, (.ints .i64 10 [1, 0, 0, 0, 0, 0, 0, 0, 0, 0])⟩]
def veillaw01_FieldLeast_l0_H : Fm ((Int × Unit × Int)) (Unit) := ⟨(.cons 2 (.int .i64) (.cons 6 (.lit (.bool false)) (.one 8 (.int .i64)))), (.one 0 (.lit (.ints .i64 10 [1, 0, 0, 0, 0, 0, 0, 0, 0, 0])))⟩
def veillaw01_FieldLeast_l0_O : Fm (Int) (Unit) := ⟨(.one 2 (.int .i64)), (.one 0 (.lit (.ints .i64 10 [1, 0, 0, 0, 0, 0, 0, 0, 0, 0])))⟩
def veillaw01_FieldLeast_l0_T : Fm (Unit) (Unit) := ⟨(.one 6 (.lit (.bool false))), (.one 0 (.lit (.ints .i64 10 [1, 0, 0, 0, 0, 0, 0, 0, 0, 0])))⟩
noncomputable def ls_veillaw01_FieldLeast (N : Nat) : List (Nat × Lf) := [(0, loopCt veillaw01_FieldLeast_l0_H veillaw01_FieldLeast_l0_O veillaw01_FieldLeast_l0_T 28 (veillaw01_FieldLeast_l0 N) N)]
theorem veillaw01_FieldLeast_l0_step (N : Nat) : ∀ v, exec Tryd.prog (cxOf Tryd.f3 (cs_veillaw01_FieldLeast N) gs_veillaw01_FieldLeast 0) (fun i => lkL i (ls_veillaw01_FieldLeast N)) 100 none (loopBody Tryd.f3 0) (veillaw01_FieldLeast_l0_H.st 28 v) (rdEnd veillaw01_FieldLeast_l0_H veillaw01_FieldLeast_l0_O veillaw01_FieldLeast_l0_T 0) = veillaw01_FieldLeast_l0 N v := by
  intro v; kernel_rfl
theorem r_veillaw01_FieldLeast (N : Nat) : ∀ x, run Tryd.prog (fun g => lkG g (cs_veillaw01_FieldLeast N)) (glAt gs_veillaw01_FieldLeast 0) (gs_veillaw01_FieldLeast.length + 0) (memAt gs_veillaw01_FieldLeast 0 ++ (unc gs_veillaw01_FieldLeast.length (Ag.mk ((.cons (.ints .u64 5) (.cons (.int .u64) (.one (.int .i64))))) x)).2) (fun i => lkL i (ls_veillaw01_FieldLeast N)) 100 Tryd.f3 (unc gs_veillaw01_FieldLeast.length (Ag.mk ((.cons (.ints .u64 5) (.cons (.int .u64) (.one (.int .i64))))) x)).1 none (Pt.get (.bool)) = veillaw01_FieldLeast N x.1 x.2.1 x.2.2 := by
  intro x; kernel_rfl
theorem s_veillaw01_FieldLeast {w0 : World} (N : Nat)  (h13 : SoundAt Tryd.prog w0 13 (ct_veillaw01_of N)) (h14 : SoundAt Tryd.prog w0 14 (ct_veillaw01_is N)) (h15 : SoundAt Tryd.prog w0 15 ct_field_Elem_Least) (h16 : SoundAt Tryd.prog w0 16 ct_field_Int) (h17 : SoundAt Tryd.prog w0 17 (ct_veilref01_Small N)) (h18 : SoundAt Tryd.prog w0 18 ct_field_Elem_One) (h19 : SoundAt Tryd.prog w0 19 ct_field_Const) (h20 : SoundAt Tryd.prog w0 20 (ct_veilref01_Const N)) (hg : GlobOK Tryd.prog w0 gs_veillaw01_FieldLeast) : SoundAt Tryd.prog w0 3 (ct_veillaw01_FieldLeast N) := by
  have hcs : ∀ x ∈ cs_veillaw01_FieldLeast N, SoundAt Tryd.prog w0 x.1 x.2 := by
    intro x hx
    simp only [cs_veillaw01_FieldLeast, List.mem_cons, List.not_mem_nil, or_false] at hx
    rcases hx with rfl | rfl | rfl | rfl | rfl | rfl | rfl | rfl
    · exact h13
    · exact h14
    · exact h15
    · exact h16
    · exact h17
    · exact h18
    · exact h19
    · exact h20
  have L0 : ∀ w, RowKit.Below w0.heap.size w0 w → LoopOK Tryd.prog (cxOf Tryd.f3 (cs_veillaw01_FieldLeast N) gs_veillaw01_FieldLeast 0) w 0 (.loop (loopBody Tryd.f3 0)) (loopCt veillaw01_FieldLeast_l0_H veillaw01_FieldLeast_l0_O veillaw01_FieldLeast_l0_T 28 (veillaw01_FieldLeast_l0 N) N) :=
    loop_printed hcs (ls := ls_veillaw01_FieldLeast N) (n := 100) (by kernel_rfl) (veillaw01_FieldLeast_l0_step N) N fun w hw => loopsOK_list (by
      intro x hx
      simp only [ls_veillaw01_FieldLeast, List.mem_cons, List.not_mem_nil, or_false] at hx
      rcases hx with rfl
      · exact .inl (by kernel_rfl)
    )
  exact fn_printed hcs hg Tryd.func3 (by kernel_rfl) (by kernel_rfl) (S := 0) (fun w hw => loopsOK_list (by
    intro x hx
    simp only [ls_veillaw01_FieldLeast, List.mem_cons, List.not_mem_nil, or_false] at hx
    rcases hx with rfl
    · exact .inr ⟨_, by kernel_rfl, L0 w hw⟩
  )) (fun _ => rfl) (r_veillaw01_FieldLeast N)
theorem k_veillaw01_FieldLeast {w0 : World} (N : Nat)  (hg_veilref01_least : GlobOK Tryd.prog w0 gs_veilref01_least) (hg_field_Const : GlobOK Tryd.prog w0 gs_field_Const) (hg_veilref01_F_Neg : GlobOK Tryd.prog w0 gs_veilref01_F_Neg) (hg_veilref01_root : GlobOK Tryd.prog w0 gs_veilref01_root) (hg_veilref01_Const : GlobOK Tryd.prog w0 gs_veilref01_Const) (hg_veillaw01_FieldLeast : GlobOK Tryd.prog w0 gs_veillaw01_FieldLeast) : SoundAt Tryd.prog w0 3 (ct_veillaw01_FieldLeast N) :=
  s_veillaw01_FieldLeast N (k_veillaw01_of N hg_veilref01_least) (k_veillaw01_is N) (k_field_Elem_Least) (k_field_Int) (k_veilref01_Small N hg_veilref01_least) (k_field_Elem_One) (k_field_Const hg_field_Const) (k_veilref01_Const N hg_veilref01_least hg_veilref01_F_Neg hg_veilref01_root hg_veilref01_Const) hg_veillaw01_FieldLeast

def ct_veillaw01_FieldAdds (N : Nat) : Ct := fct (.cons (.ints .u64 5) (.one (.ints .u64 5))) .bool fun x => veillaw01_FieldAdds N x.1 x.2
def cs_veillaw01_FieldAdds (N : Nat) : List (FuncId × Ct) := [(13, (ct_veillaw01_of N)), (14, (ct_veillaw01_is N)), (27, ct_field_Elem_Add), (28, (ct_veilref01_F_Add N)), (29, ct_field_Elem_Sub), (30, (ct_veilref01_F_Sub N)), (31, ct_field_Elem_Neg), (32, ct_veilref01_F_Neg)]
def gs_veillaw01_FieldAdds : List Gv := []
noncomputable def ls_veillaw01_FieldAdds (N : Nat) : List (Nat × Lf) := []
theorem r_veillaw01_FieldAdds (N : Nat) : ∀ x, run Tryd.prog (fun g => lkG g (cs_veillaw01_FieldAdds N)) (glAt gs_veillaw01_FieldAdds 0) (gs_veillaw01_FieldAdds.length + 0) (memAt gs_veillaw01_FieldAdds 0 ++ (unc gs_veillaw01_FieldAdds.length (Ag.mk ((.cons (.ints .u64 5) (.one (.ints .u64 5)))) x)).2) (fun i => lkL i (ls_veillaw01_FieldAdds N)) 100 Tryd.f5 (unc gs_veillaw01_FieldAdds.length (Ag.mk ((.cons (.ints .u64 5) (.one (.ints .u64 5)))) x)).1 none (Pt.get (.bool)) = veillaw01_FieldAdds N x.1 x.2 := by
  intro x; kernel_rfl
theorem s_veillaw01_FieldAdds {w0 : World} (N : Nat)  (h13 : SoundAt Tryd.prog w0 13 (ct_veillaw01_of N)) (h14 : SoundAt Tryd.prog w0 14 (ct_veillaw01_is N)) (h27 : SoundAt Tryd.prog w0 27 ct_field_Elem_Add) (h28 : SoundAt Tryd.prog w0 28 (ct_veilref01_F_Add N)) (h29 : SoundAt Tryd.prog w0 29 ct_field_Elem_Sub) (h30 : SoundAt Tryd.prog w0 30 (ct_veilref01_F_Sub N)) (h31 : SoundAt Tryd.prog w0 31 ct_field_Elem_Neg) (h32 : SoundAt Tryd.prog w0 32 ct_veilref01_F_Neg) : SoundAt Tryd.prog w0 5 (ct_veillaw01_FieldAdds N) := by
  have hcs : ∀ x ∈ cs_veillaw01_FieldAdds N, SoundAt Tryd.prog w0 x.1 x.2 := by
    intro x hx
    simp only [cs_veillaw01_FieldAdds, List.mem_cons, List.not_mem_nil, or_false] at hx
    rcases hx with rfl | rfl | rfl | rfl | rfl | rfl | rfl | rfl
    · exact h13
    · exact h14
    · exact h27
    · exact h28
    · exact h29
    · exact h30
    · exact h31
    · exact h32
  exact fn_printed hcs (glob_nil _ _) Tryd.func5 (by kernel_rfl) (by kernel_rfl) (S := 0) (fun w _ => loopsOK_nil _) (fun _ => rfl) (r_veillaw01_FieldAdds N)
theorem k_veillaw01_FieldAdds {w0 : World} (N : Nat)  (hg_veilref01_least : GlobOK Tryd.prog w0 gs_veilref01_least) (hg_veilref01_F_Neg : GlobOK Tryd.prog w0 gs_veilref01_F_Neg) : SoundAt Tryd.prog w0 5 (ct_veillaw01_FieldAdds N) :=
  s_veillaw01_FieldAdds N (k_veillaw01_of N hg_veilref01_least) (k_veillaw01_is N) (k_field_Elem_Add) (k_veilref01_F_Add N hg_veilref01_least) (k_field_Elem_Sub) (k_veilref01_F_Sub N hg_veilref01_least hg_veilref01_F_Neg) (k_field_Elem_Neg) (k_veilref01_F_Neg hg_veilref01_F_Neg)

def ct_veillaw01_FieldAsks (N : Nat) : Ct := fct (.cons (.ints .u64 5) (.cons (.ints .u64 5) (.one (.int .i64)))) .bool fun x => veillaw01_FieldAsks N x.1 x.2.1 x.2.2
def cs_veillaw01_FieldAsks (N : Nat) : List (FuncId × Ct) := [(13, (ct_veillaw01_of N)), (14, (ct_veillaw01_is N)), (33, ct_field_Elem_Same), (34, ct_field_Elem_IsZero), (35, ct_field_Elem_Negative), (36, ct_veilref01_F_Negative), (37, ct_field_Elem_Abs), (38, ct_veilref01_F_Abs), (39, ct_field_Select)]
def gs_veillaw01_FieldAsks : List Gv := [⟨1, 26, (.ints .i64 10 [0, 0, 0, 0, 0, 0, 0, 0, 0, 0])⟩]
noncomputable def ls_veillaw01_FieldAsks (N : Nat) : List (Nat × Lf) := []
theorem r_veillaw01_FieldAsks (N : Nat) : ∀ x, run Tryd.prog (fun g => lkG g (cs_veillaw01_FieldAsks N)) (glAt gs_veillaw01_FieldAsks 0) (gs_veillaw01_FieldAsks.length + 0) (memAt gs_veillaw01_FieldAsks 0 ++ (unc gs_veillaw01_FieldAsks.length (Ag.mk ((.cons (.ints .u64 5) (.cons (.ints .u64 5) (.one (.int .i64))))) x)).2) (fun i => lkL i (ls_veillaw01_FieldAsks N)) 100 Tryd.f6 (unc gs_veillaw01_FieldAsks.length (Ag.mk ((.cons (.ints .u64 5) (.cons (.ints .u64 5) (.one (.int .i64))))) x)).1 none (Pt.get (.bool)) = veillaw01_FieldAsks N x.1 x.2.1 x.2.2 := by
  intro x; kernel_rfl
theorem s_veillaw01_FieldAsks {w0 : World} (N : Nat)  (h13 : SoundAt Tryd.prog w0 13 (ct_veillaw01_of N)) (h14 : SoundAt Tryd.prog w0 14 (ct_veillaw01_is N)) (h33 : SoundAt Tryd.prog w0 33 ct_field_Elem_Same) (h34 : SoundAt Tryd.prog w0 34 ct_field_Elem_IsZero) (h35 : SoundAt Tryd.prog w0 35 ct_field_Elem_Negative) (h36 : SoundAt Tryd.prog w0 36 ct_veilref01_F_Negative) (h37 : SoundAt Tryd.prog w0 37 ct_field_Elem_Abs) (h38 : SoundAt Tryd.prog w0 38 ct_veilref01_F_Abs) (h39 : SoundAt Tryd.prog w0 39 ct_field_Select) (hg : GlobOK Tryd.prog w0 gs_veillaw01_FieldAsks) : SoundAt Tryd.prog w0 6 (ct_veillaw01_FieldAsks N) := by
  have hcs : ∀ x ∈ cs_veillaw01_FieldAsks N, SoundAt Tryd.prog w0 x.1 x.2 := by
    intro x hx
    simp only [cs_veillaw01_FieldAsks, List.mem_cons, List.not_mem_nil, or_false] at hx
    rcases hx with rfl | rfl | rfl | rfl | rfl | rfl | rfl | rfl | rfl
    · exact h13
    · exact h14
    · exact h33
    · exact h34
    · exact h35
    · exact h36
    · exact h37
    · exact h38
    · exact h39
  exact fn_printed hcs hg Tryd.func6 (by kernel_rfl) (by kernel_rfl) (S := 0) (fun w _ => loopsOK_nil _) (fun _ => rfl) (r_veillaw01_FieldAsks N)
theorem k_veillaw01_FieldAsks {w0 : World} (N : Nat)  (hg_veilref01_least : GlobOK Tryd.prog w0 gs_veilref01_least) (hg_veilref01_F_Neg : GlobOK Tryd.prog w0 gs_veilref01_F_Neg) (hg_veillaw01_FieldAsks : GlobOK Tryd.prog w0 gs_veillaw01_FieldAsks) : SoundAt Tryd.prog w0 6 (ct_veillaw01_FieldAsks N) :=
  s_veillaw01_FieldAsks N (k_veillaw01_of N hg_veilref01_least) (k_veillaw01_is N) (k_field_Elem_Same) (k_field_Elem_IsZero) (k_field_Elem_Negative) (k_veilref01_F_Negative) (k_field_Elem_Abs) (k_veilref01_F_Abs hg_veilref01_F_Neg) (k_field_Select) hg_veillaw01_FieldAsks

def ct_veillaw01_FieldMuls (N : Nat) : Ct := fct (.cons (.ints .u64 5) (.one (.ints .u64 5))) .bool fun x => veillaw01_FieldMuls N x.1 x.2
def cs_veillaw01_FieldMuls (N : Nat) : List (FuncId × Ct) := [(13, (ct_veillaw01_of N)), (14, (ct_veillaw01_is N)), (40, ct_field_Elem_Mul), (41, (ct_veilref01_F_Mul N)), (42, ct_field_Elem_Square)]
def gs_veillaw01_FieldMuls : List Gv := []
noncomputable def ls_veillaw01_FieldMuls (N : Nat) : List (Nat × Lf) := []
theorem r_veillaw01_FieldMuls (N : Nat) : ∀ x, run Tryd.prog (fun g => lkG g (cs_veillaw01_FieldMuls N)) (glAt gs_veillaw01_FieldMuls 0) (gs_veillaw01_FieldMuls.length + 0) (memAt gs_veillaw01_FieldMuls 0 ++ (unc gs_veillaw01_FieldMuls.length (Ag.mk ((.cons (.ints .u64 5) (.one (.ints .u64 5)))) x)).2) (fun i => lkL i (ls_veillaw01_FieldMuls N)) 100 Tryd.f7 (unc gs_veillaw01_FieldMuls.length (Ag.mk ((.cons (.ints .u64 5) (.one (.ints .u64 5)))) x)).1 none (Pt.get (.bool)) = veillaw01_FieldMuls N x.1 x.2 := by
  intro x; kernel_rfl
theorem s_veillaw01_FieldMuls {w0 : World} (N : Nat)  (h13 : SoundAt Tryd.prog w0 13 (ct_veillaw01_of N)) (h14 : SoundAt Tryd.prog w0 14 (ct_veillaw01_is N)) (h40 : SoundAt Tryd.prog w0 40 ct_field_Elem_Mul) (h41 : SoundAt Tryd.prog w0 41 (ct_veilref01_F_Mul N)) (h42 : SoundAt Tryd.prog w0 42 ct_field_Elem_Square) : SoundAt Tryd.prog w0 7 (ct_veillaw01_FieldMuls N) := by
  have hcs : ∀ x ∈ cs_veillaw01_FieldMuls N, SoundAt Tryd.prog w0 x.1 x.2 := by
    intro x hx
    simp only [cs_veillaw01_FieldMuls, List.mem_cons, List.not_mem_nil, or_false] at hx
    rcases hx with rfl | rfl | rfl | rfl | rfl
    · exact h13
    · exact h14
    · exact h40
    · exact h41
    · exact h42
  exact fn_printed hcs (glob_nil _ _) Tryd.func7 (by kernel_rfl) (by kernel_rfl) (S := 0) (fun w _ => loopsOK_nil _) (fun _ => rfl) (r_veillaw01_FieldMuls N)
theorem k_veillaw01_FieldMuls {w0 : World} (N : Nat)  (hg_veilref01_least : GlobOK Tryd.prog w0 gs_veilref01_least) : SoundAt Tryd.prog w0 7 (ct_veillaw01_FieldMuls N) :=
  s_veillaw01_FieldMuls N (k_veillaw01_of N hg_veilref01_least) (k_veillaw01_is N) (k_field_Elem_Mul) (k_veilref01_F_Mul N hg_veilref01_least) (k_field_Elem_Square)

def ct_veillaw01_FieldPowers (N : Nat) : Ct := fct (.cons (.ints .u64 5) (.one (.ints .u8 32))) .bool fun x => veillaw01_FieldPowers N x.1 x.2
def cs_veillaw01_FieldPowers (N : Nat) : List (FuncId × Ct) := [(13, (ct_veillaw01_of N)), (14, (ct_veillaw01_is N)), (43, (ct_field_Elem_Power N)), (44, (ct_veilref01_F_Power N)), (45, (ct_field_Elem_Invert N)), (46, (ct_veilref01_F_Invert N))]
def gs_veillaw01_FieldPowers : List Gv := []
noncomputable def ls_veillaw01_FieldPowers (N : Nat) : List (Nat × Lf) := []
theorem r_veillaw01_FieldPowers (N : Nat) : ∀ x, run Tryd.prog (fun g => lkG g (cs_veillaw01_FieldPowers N)) (glAt gs_veillaw01_FieldPowers 0) (gs_veillaw01_FieldPowers.length + 0) (memAt gs_veillaw01_FieldPowers 0 ++ (unc gs_veillaw01_FieldPowers.length (Ag.mk ((.cons (.ints .u64 5) (.one (.ints .u8 32)))) x)).2) (fun i => lkL i (ls_veillaw01_FieldPowers N)) 100 Tryd.f8 (unc gs_veillaw01_FieldPowers.length (Ag.mk ((.cons (.ints .u64 5) (.one (.ints .u8 32)))) x)).1 none (Pt.get (.bool)) = veillaw01_FieldPowers N x.1 x.2 := by
  intro x; kernel_rfl
theorem s_veillaw01_FieldPowers {w0 : World} (N : Nat)  (h13 : SoundAt Tryd.prog w0 13 (ct_veillaw01_of N)) (h14 : SoundAt Tryd.prog w0 14 (ct_veillaw01_is N)) (h43 : SoundAt Tryd.prog w0 43 (ct_field_Elem_Power N)) (h44 : SoundAt Tryd.prog w0 44 (ct_veilref01_F_Power N)) (h45 : SoundAt Tryd.prog w0 45 (ct_field_Elem_Invert N)) (h46 : SoundAt Tryd.prog w0 46 (ct_veilref01_F_Invert N)) : SoundAt Tryd.prog w0 8 (ct_veillaw01_FieldPowers N) := by
  have hcs : ∀ x ∈ cs_veillaw01_FieldPowers N, SoundAt Tryd.prog w0 x.1 x.2 := by
    intro x hx
    simp only [cs_veillaw01_FieldPowers, List.mem_cons, List.not_mem_nil, or_false] at hx
    rcases hx with rfl | rfl | rfl | rfl | rfl | rfl
    · exact h13
    · exact h14
    · exact h43
    · exact h44
    · exact h45
    · exact h46
  exact fn_printed hcs (glob_nil _ _) Tryd.func8 (by kernel_rfl) (by kernel_rfl) (S := 0) (fun w _ => loopsOK_nil _) (fun _ => rfl) (r_veillaw01_FieldPowers N)
theorem k_veillaw01_FieldPowers {w0 : World} (N : Nat)  (hg_veilref01_least : GlobOK Tryd.prog w0 gs_veilref01_least) (hg_veilref01_F_Power : GlobOK Tryd.prog w0 gs_veilref01_F_Power) : SoundAt Tryd.prog w0 8 (ct_veillaw01_FieldPowers N) :=
  s_veillaw01_FieldPowers N (k_veillaw01_of N hg_veilref01_least) (k_veillaw01_is N) (k_field_Elem_Power N) (k_veilref01_F_Power N hg_veilref01_least hg_veilref01_F_Power) (k_field_Elem_Invert N) (k_veilref01_F_Invert N hg_veilref01_least)

def ct_veillaw01_FieldRoots (N : Nat) : Ct := fct (.cons (.ints .u64 5) (.one (.ints .u64 5))) .bool fun x => veillaw01_FieldRoots N x.1 x.2
def cs_veillaw01_FieldRoots (N : Nat) : List (FuncId × Ct) := [(13, (ct_veillaw01_of N)), (14, (ct_veillaw01_is N)), (48, (ct_field_SqrtRatio N)), (49, (ct_veilref01_SqrtRatio N))]
def gs_veillaw01_FieldRoots : List Gv := []
noncomputable def ls_veillaw01_FieldRoots (N : Nat) : List (Nat × Lf) := []
theorem r_veillaw01_FieldRoots (N : Nat) : ∀ x, run Tryd.prog (fun g => lkG g (cs_veillaw01_FieldRoots N)) (glAt gs_veillaw01_FieldRoots 0) (gs_veillaw01_FieldRoots.length + 0) (memAt gs_veillaw01_FieldRoots 0 ++ (unc gs_veillaw01_FieldRoots.length (Ag.mk ((.cons (.ints .u64 5) (.one (.ints .u64 5)))) x)).2) (fun i => lkL i (ls_veillaw01_FieldRoots N)) 100 Tryd.f10 (unc gs_veillaw01_FieldRoots.length (Ag.mk ((.cons (.ints .u64 5) (.one (.ints .u64 5)))) x)).1 none (Pt.get (.bool)) = veillaw01_FieldRoots N x.1 x.2 := by
  intro x; kernel_rfl
theorem s_veillaw01_FieldRoots {w0 : World} (N : Nat)  (h13 : SoundAt Tryd.prog w0 13 (ct_veillaw01_of N)) (h14 : SoundAt Tryd.prog w0 14 (ct_veillaw01_is N)) (h48 : SoundAt Tryd.prog w0 48 (ct_field_SqrtRatio N)) (h49 : SoundAt Tryd.prog w0 49 (ct_veilref01_SqrtRatio N)) : SoundAt Tryd.prog w0 10 (ct_veillaw01_FieldRoots N) := by
  have hcs : ∀ x ∈ cs_veillaw01_FieldRoots N, SoundAt Tryd.prog w0 x.1 x.2 := by
    intro x hx
    simp only [cs_veillaw01_FieldRoots, List.mem_cons, List.not_mem_nil, or_false] at hx
    rcases hx with rfl | rfl | rfl | rfl
    · exact h13
    · exact h14
    · exact h48
    · exact h49
  exact fn_printed hcs (glob_nil _ _) Tryd.func10 (by kernel_rfl) (by kernel_rfl) (S := 0) (fun w _ => loopsOK_nil _) (fun _ => rfl) (r_veillaw01_FieldRoots N)
theorem k_veillaw01_FieldRoots {w0 : World} (N : Nat)  (hg_veilref01_least : GlobOK Tryd.prog w0 gs_veilref01_least) (hg_field_SqrtRatio : GlobOK Tryd.prog w0 gs_field_SqrtRatio) (hg_veilref01_F_Neg : GlobOK Tryd.prog w0 gs_veilref01_F_Neg) (hg_veilref01_root : GlobOK Tryd.prog w0 gs_veilref01_root) (hg_veilref01_SqrtRatio : GlobOK Tryd.prog w0 gs_veilref01_SqrtRatio) : SoundAt Tryd.prog w0 10 (ct_veillaw01_FieldRoots N) :=
  s_veillaw01_FieldRoots N (k_veillaw01_of N hg_veilref01_least) (k_veillaw01_is N) (k_field_SqrtRatio N hg_field_SqrtRatio) (k_veilref01_SqrtRatio N hg_veilref01_least hg_veilref01_F_Neg hg_veilref01_root hg_veilref01_SqrtRatio)

def ct_veillaw01_FieldBytes (N : Nat) : Ct := fct (.cons (.ints .u64 5) (.one (.ints .u8 32))) .bool fun x => veillaw01_FieldBytes N x.1 x.2
def cs_veillaw01_FieldBytes (N : Nat) : List (FuncId × Ct) := [(13, (ct_veillaw01_of N)), (14, (ct_veillaw01_is N)), (21, ct_field_Elem_Encode), (22, (ct_veilref01_F_Encode N)), (23, ct_field_Decode), (24, (ct_veilref01_Decode N)), (25, ct_field_Reduce), (26, (ct_veilref01_Reduce N))]
def gs_veillaw01_FieldBytes : List Gv := []
noncomputable def ls_veillaw01_FieldBytes (N : Nat) : List (Nat × Lf) := []
theorem r_veillaw01_FieldBytes (N : Nat) : ∀ x, run Tryd.prog (fun g => lkG g (cs_veillaw01_FieldBytes N)) (glAt gs_veillaw01_FieldBytes 0) (gs_veillaw01_FieldBytes.length + 0) (memAt gs_veillaw01_FieldBytes 0 ++ (unc gs_veillaw01_FieldBytes.length (Ag.mk ((.cons (.ints .u64 5) (.one (.ints .u8 32)))) x)).2) (fun i => lkL i (ls_veillaw01_FieldBytes N)) 100 Tryd.f4 (unc gs_veillaw01_FieldBytes.length (Ag.mk ((.cons (.ints .u64 5) (.one (.ints .u8 32)))) x)).1 none (Pt.get (.bool)) = veillaw01_FieldBytes N x.1 x.2 := by
  intro x; kernel_rfl
theorem s_veillaw01_FieldBytes {w0 : World} (N : Nat)  (h13 : SoundAt Tryd.prog w0 13 (ct_veillaw01_of N)) (h14 : SoundAt Tryd.prog w0 14 (ct_veillaw01_is N)) (h21 : SoundAt Tryd.prog w0 21 ct_field_Elem_Encode) (h22 : SoundAt Tryd.prog w0 22 (ct_veilref01_F_Encode N)) (h23 : SoundAt Tryd.prog w0 23 ct_field_Decode) (h24 : SoundAt Tryd.prog w0 24 (ct_veilref01_Decode N)) (h25 : SoundAt Tryd.prog w0 25 ct_field_Reduce) (h26 : SoundAt Tryd.prog w0 26 (ct_veilref01_Reduce N)) : SoundAt Tryd.prog w0 4 (ct_veillaw01_FieldBytes N) := by
  have hcs : ∀ x ∈ cs_veillaw01_FieldBytes N, SoundAt Tryd.prog w0 x.1 x.2 := by
    intro x hx
    simp only [cs_veillaw01_FieldBytes, List.mem_cons, List.not_mem_nil, or_false] at hx
    rcases hx with rfl | rfl | rfl | rfl | rfl | rfl | rfl | rfl
    · exact h13
    · exact h14
    · exact h21
    · exact h22
    · exact h23
    · exact h24
    · exact h25
    · exact h26
  exact fn_printed hcs (glob_nil _ _) Tryd.func4 (by kernel_rfl) (by kernel_rfl) (S := 0) (fun w _ => loopsOK_nil _) (fun _ => rfl) (r_veillaw01_FieldBytes N)
theorem k_veillaw01_FieldBytes {w0 : World} (N : Nat)  (hg_veilref01_least : GlobOK Tryd.prog w0 gs_veilref01_least) : SoundAt Tryd.prog w0 4 (ct_veillaw01_FieldBytes N) :=
  s_veillaw01_FieldBytes N (k_veillaw01_of N hg_veilref01_least) (k_veillaw01_is N) (k_field_Elem_Encode) (k_veilref01_F_Encode N) (k_field_Decode) (k_veilref01_Decode N hg_veilref01_least) (k_field_Reduce) (k_veilref01_Reduce N hg_veilref01_least)

end Go.Vx
