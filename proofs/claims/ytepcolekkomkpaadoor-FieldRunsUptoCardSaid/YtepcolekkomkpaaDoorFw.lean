import Derived.Test.YtepcolekkomkpaaDoorFp
import Derived.Test.YtepcolekkomkpaaDoorProg
set_option autoImplicit false
set_option linter.unusedVariables false
set_option linter.unusedSimpArgs false
namespace Go.Vx
open Go Go.Proofs

def ct_bits_Add64 : Ct := fct (.cons (.int .u64) (.cons (.int .u64) (.one (.int .u64)))) (.tup (.cons (.int .u64) (.one (.int .u64)))) fun x => bits_Add64 x.1 x.2.1 x.2.2

theorem k_bits_Add64 {w0 : World} : SoundAt Tryd.prog w0 44 ct_bits_Add64 :=
  sound_add64 Tryd.func44 (by kernel_rfl) (by kernel_rfl) (by kernel_rfl) (by kernel_rfl)

def ct_field_Elem_light : Ct := tct (.one (.ints .u64 5)) (.ints .u64 5) fun x => field_Elem_light x
def cs_field_Elem_light : List (FuncId × Ct) := []
def gs_field_Elem_light : List Gv := []
noncomputable def ls_field_Elem_light : List (Nat × Lf) := []
theorem r_field_Elem_light : ∀ x, run Tryd.prog (fun g => lkG g (cs_field_Elem_light)) (glAt gs_field_Elem_light 0) (gs_field_Elem_light.length + 0) (memAt gs_field_Elem_light 0 ++ (unc gs_field_Elem_light.length (Ag.mk ((.one (.ints .u64 5))) x)).2) (fun i => lkL i (ls_field_Elem_light)) 100 Tryd.f39 (unc gs_field_Elem_light.length (Ag.mk ((.one (.ints .u64 5))) x)).1 none (Pt.get ((.ints .u64 5))) = some (field_Elem_light x) := by
  intro x; kernel_rfl
theorem s_field_Elem_light {w0 : World}  : SoundAt Tryd.prog w0 39 ct_field_Elem_light := by
  have hcs : ∀ x ∈ cs_field_Elem_light, SoundAt Tryd.prog w0 x.1 x.2 := by
    intro x hx
    simp [cs_field_Elem_light] at hx
  exact sound_tct (fn_printed hcs (glob_nil _ _) Tryd.func39 (by kernel_rfl) (by kernel_rfl) (S := 0) (fun w _ => loopsOK_nil _) (fun _ => rfl) (r_field_Elem_light)) fun _ _ => rfl
theorem k_field_Elem_light {w0 : World}  : SoundAt Tryd.prog w0 39 ct_field_Elem_light :=
  s_field_Elem_light

def ct_field_Elem_Least : Ct := tct (.one (.ints .u64 5)) (.ints .u64 5) fun x => field_Elem_Least x
def cs_field_Elem_Least : List (FuncId × Ct) := [(39, ct_field_Elem_light)]
def gs_field_Elem_Least : List Gv := []
noncomputable def ls_field_Elem_Least : List (Nat × Lf) := []
theorem r_field_Elem_Least : ∀ x, run Tryd.prog (fun g => lkG g (cs_field_Elem_Least)) (glAt gs_field_Elem_Least 0) (gs_field_Elem_Least.length + 0) (memAt gs_field_Elem_Least 0 ++ (unc gs_field_Elem_Least.length (Ag.mk ((.one (.ints .u64 5))) x)).2) (fun i => lkL i (ls_field_Elem_Least)) 100 Tryd.f24 (unc gs_field_Elem_Least.length (Ag.mk ((.one (.ints .u64 5))) x)).1 none (Pt.get ((.ints .u64 5))) = some (field_Elem_Least x) := by
  intro x; kernel_rfl
theorem s_field_Elem_Least {w0 : World}  (h39 : SoundAt Tryd.prog w0 39 ct_field_Elem_light) : SoundAt Tryd.prog w0 24 ct_field_Elem_Least := by
  have hcs : ∀ x ∈ cs_field_Elem_Least, SoundAt Tryd.prog w0 x.1 x.2 := by
    intro x hx
    simp only [cs_field_Elem_Least, List.mem_cons, List.not_mem_nil, or_false] at hx
    rcases hx with rfl
    · exact h39
  exact sound_tct (fn_printed hcs (glob_nil _ _) Tryd.func24 (by kernel_rfl) (by kernel_rfl) (S := 0) (fun w _ => loopsOK_nil _) (fun _ => rfl) (r_field_Elem_Least)) fun _ _ => rfl
theorem k_field_Elem_Least {w0 : World}  : SoundAt Tryd.prog w0 24 ct_field_Elem_Least :=
  s_field_Elem_Least (k_field_Elem_light)

def ct_field_Elem_slim : Ct := tct (.one (.ints .u64 5)) .bool fun x => field_Elem_slim x
def cs_field_Elem_slim : List (FuncId × Ct) := []
def gs_field_Elem_slim : List Gv := []
noncomputable def ls_field_Elem_slim : List (Nat × Lf) := []
theorem r_field_Elem_slim : ∀ x, run Tryd.prog (fun g => lkG g (cs_field_Elem_slim)) (glAt gs_field_Elem_slim 0) (gs_field_Elem_slim.length + 0) (memAt gs_field_Elem_slim 0 ++ (unc gs_field_Elem_slim.length (Ag.mk ((.one (.ints .u64 5))) x)).2) (fun i => lkL i (ls_field_Elem_slim)) 100 Tryd.f27 (unc gs_field_Elem_slim.length (Ag.mk ((.one (.ints .u64 5))) x)).1 none (Pt.get (.bool)) = some (field_Elem_slim x) := by
  intro x; kernel_rfl
theorem s_field_Elem_slim {w0 : World}  : SoundAt Tryd.prog w0 27 ct_field_Elem_slim := by
  have hcs : ∀ x ∈ cs_field_Elem_slim, SoundAt Tryd.prog w0 x.1 x.2 := by
    intro x hx
    simp [cs_field_Elem_slim] at hx
  exact sound_tct (fn_printed hcs (glob_nil _ _) Tryd.func27 (by kernel_rfl) (by kernel_rfl) (S := 0) (fun w _ => loopsOK_nil _) (fun _ => rfl) (r_field_Elem_slim)) fun _ _ => rfl
theorem k_field_Elem_slim {w0 : World}  : SoundAt Tryd.prog w0 27 ct_field_Elem_slim :=
  s_field_Elem_slim

def ct_field_last : Ct := tct (.cons (.int .u64) (.cons (.int .u64) (.cons (.int .u64) (.cons (.int .u64) (.one (.int .u64)))))) (.ints .u64 5) fun x => field_last x.1 x.2.1 x.2.2.1 x.2.2.2.1 x.2.2.2.2
def cs_field_last : List (FuncId × Ct) := []
def gs_field_last : List Gv := []
noncomputable def ls_field_last : List (Nat × Lf) := []
theorem r_field_last : ∀ x, run Tryd.prog (fun g => lkG g (cs_field_last)) (glAt gs_field_last 0) (gs_field_last.length + 0) (memAt gs_field_last 0 ++ (unc gs_field_last.length (Ag.mk ((.cons (.int .u64) (.cons (.int .u64) (.cons (.int .u64) (.cons (.int .u64) (.one (.int .u64))))))) x)).2) (fun i => lkL i (ls_field_last)) 100 Tryd.f41 (unc gs_field_last.length (Ag.mk ((.cons (.int .u64) (.cons (.int .u64) (.cons (.int .u64) (.cons (.int .u64) (.one (.int .u64))))))) x)).1 none (Pt.get ((.ints .u64 5))) = some (field_last x.1 x.2.1 x.2.2.1 x.2.2.2.1 x.2.2.2.2) := by
  intro x; kernel_rfl
theorem s_field_last {w0 : World}  : SoundAt Tryd.prog w0 41 ct_field_last := by
  have hcs : ∀ x ∈ cs_field_last, SoundAt Tryd.prog w0 x.1 x.2 := by
    intro x hx
    simp [cs_field_last] at hx
  exact sound_tct (fn_printed hcs (glob_nil _ _) Tryd.func41 (by kernel_rfl) (by kernel_rfl) (S := 0) (fun w _ => loopsOK_nil _) (fun _ => rfl) (r_field_last)) fun _ _ => rfl
theorem k_field_last {w0 : World}  : SoundAt Tryd.prog w0 41 ct_field_last :=
  s_field_last

def ct_field_closed : Ct := tct (.cons (.int .u64) (.cons (.int .u64) (.cons (.int .u64) (.cons (.int .u64) (.one (.int .u64)))))) (.ints .u64 5) fun x => field_closed x.1 x.2.1 x.2.2.1 x.2.2.2.1 x.2.2.2.2
def cs_field_closed : List (FuncId × Ct) := [(41, ct_field_last)]
def gs_field_closed : List Gv := []
noncomputable def ls_field_closed : List (Nat × Lf) := []
theorem r_field_closed : ∀ x, run Tryd.prog (fun g => lkG g (cs_field_closed)) (glAt gs_field_closed 0) (gs_field_closed.length + 0) (memAt gs_field_closed 0 ++ (unc gs_field_closed.length (Ag.mk ((.cons (.int .u64) (.cons (.int .u64) (.cons (.int .u64) (.cons (.int .u64) (.one (.int .u64))))))) x)).2) (fun i => lkL i (ls_field_closed)) 100 Tryd.f28 (unc gs_field_closed.length (Ag.mk ((.cons (.int .u64) (.cons (.int .u64) (.cons (.int .u64) (.cons (.int .u64) (.one (.int .u64))))))) x)).1 none (Pt.get ((.ints .u64 5))) = field_closed_o x.1 x.2.1 x.2.2.1 x.2.2.2.1 x.2.2.2.2 := by
  intro x; kernel_rfl
theorem s_field_closed {w0 : World}  (h41 : SoundAt Tryd.prog w0 41 ct_field_last) : SoundAt Tryd.prog w0 28 ct_field_closed := by
  have hcs : ∀ x ∈ cs_field_closed, SoundAt Tryd.prog w0 x.1 x.2 := by
    intro x hx
    simp only [cs_field_closed, List.mem_cons, List.not_mem_nil, or_false] at hx
    rcases hx with rfl
    · exact h41
  exact sound_tct (fn_printed hcs (glob_nil _ _) Tryd.func28 (by kernel_rfl) (by kernel_rfl) (S := 0) (fun w _ => loopsOK_nil _) (fun _ => rfl) (r_field_closed)) fun _ _ => field_closed_tot _ _ _ _ _
theorem k_field_closed {w0 : World}  : SoundAt Tryd.prog w0 28 ct_field_closed :=
  s_field_closed (k_field_last)

def ct_field_Elem_Add : Ct := tct (.cons (.ints .u64 5) (.one (.ints .u64 5))) (.ints .u64 5) fun x => field_Elem_Add x.1 x.2
def cs_field_Elem_Add : List (FuncId × Ct) := [(24, ct_field_Elem_Least), (27, ct_field_Elem_slim), (28, ct_field_closed)]
def gs_field_Elem_Add : List Gv := []
noncomputable def ls_field_Elem_Add : List (Nat × Lf) := []
theorem r_field_Elem_Add : ∀ x, run Tryd.prog (fun g => lkG g (cs_field_Elem_Add)) (glAt gs_field_Elem_Add 0) (gs_field_Elem_Add.length + 0) (memAt gs_field_Elem_Add 0 ++ (unc gs_field_Elem_Add.length (Ag.mk ((.cons (.ints .u64 5) (.one (.ints .u64 5)))) x)).2) (fun i => lkL i (ls_field_Elem_Add)) 100 Tryd.f6 (unc gs_field_Elem_Add.length (Ag.mk ((.cons (.ints .u64 5) (.one (.ints .u64 5)))) x)).1 none (Pt.get ((.ints .u64 5))) = field_Elem_Add_o x.1 x.2 := by
  intro x; kernel_rfl
theorem s_field_Elem_Add {w0 : World}  (h24 : SoundAt Tryd.prog w0 24 ct_field_Elem_Least) (h27 : SoundAt Tryd.prog w0 27 ct_field_Elem_slim) (h28 : SoundAt Tryd.prog w0 28 ct_field_closed) : SoundAt Tryd.prog w0 6 ct_field_Elem_Add := by
  have hcs : ∀ x ∈ cs_field_Elem_Add, SoundAt Tryd.prog w0 x.1 x.2 := by
    intro x hx
    simp only [cs_field_Elem_Add, List.mem_cons, List.not_mem_nil, or_false] at hx
    rcases hx with rfl | rfl | rfl
    · exact h24
    · exact h27
    · exact h28
  exact sound_tct (fn_printed hcs (glob_nil _ _) Tryd.func6 (by kernel_rfl) (by kernel_rfl) (S := 0) (fun w _ => loopsOK_nil _) (fun _ => rfl) (r_field_Elem_Add)) fun _ _ => field_Elem_Add_tot _ _
theorem k_field_Elem_Add {w0 : World}  : SoundAt Tryd.prog w0 6 ct_field_Elem_Add :=
  s_field_Elem_Add (k_field_Elem_Least) (k_field_Elem_slim) (k_field_closed)

def ct_field_Elem_Sub : Ct := tct (.cons (.ints .u64 5) (.one (.ints .u64 5))) (.ints .u64 5) fun x => field_Elem_Sub x.1 x.2
def cs_field_Elem_Sub : List (FuncId × Ct) := [(24, ct_field_Elem_Least), (27, ct_field_Elem_slim), (28, ct_field_closed)]
def gs_field_Elem_Sub : List Gv := []
noncomputable def ls_field_Elem_Sub : List (Nat × Lf) := []
theorem r_field_Elem_Sub : ∀ x, run Tryd.prog (fun g => lkG g (cs_field_Elem_Sub)) (glAt gs_field_Elem_Sub 0) (gs_field_Elem_Sub.length + 0) (memAt gs_field_Elem_Sub 0 ++ (unc gs_field_Elem_Sub.length (Ag.mk ((.cons (.ints .u64 5) (.one (.ints .u64 5)))) x)).2) (fun i => lkL i (ls_field_Elem_Sub)) 100 Tryd.f8 (unc gs_field_Elem_Sub.length (Ag.mk ((.cons (.ints .u64 5) (.one (.ints .u64 5)))) x)).1 none (Pt.get ((.ints .u64 5))) = field_Elem_Sub_o x.1 x.2 := by
  intro x; kernel_rfl
theorem s_field_Elem_Sub {w0 : World}  (h24 : SoundAt Tryd.prog w0 24 ct_field_Elem_Least) (h27 : SoundAt Tryd.prog w0 27 ct_field_Elem_slim) (h28 : SoundAt Tryd.prog w0 28 ct_field_closed) : SoundAt Tryd.prog w0 8 ct_field_Elem_Sub := by
  have hcs : ∀ x ∈ cs_field_Elem_Sub, SoundAt Tryd.prog w0 x.1 x.2 := by
    intro x hx
    simp only [cs_field_Elem_Sub, List.mem_cons, List.not_mem_nil, or_false] at hx
    rcases hx with rfl | rfl | rfl
    · exact h24
    · exact h27
    · exact h28
  exact sound_tct (fn_printed hcs (glob_nil _ _) Tryd.func8 (by kernel_rfl) (by kernel_rfl) (S := 0) (fun w _ => loopsOK_nil _) (fun _ => rfl) (r_field_Elem_Sub)) fun _ _ => field_Elem_Sub_tot _ _
theorem k_field_Elem_Sub {w0 : World}  : SoundAt Tryd.prog w0 8 ct_field_Elem_Sub :=
  s_field_Elem_Sub (k_field_Elem_Least) (k_field_Elem_slim) (k_field_closed)

def ct_field_Elem_Neg : Ct := tct (.one (.ints .u64 5)) (.ints .u64 5) fun x => field_Elem_Neg x
def cs_field_Elem_Neg : List (FuncId × Ct) := [(8, ct_field_Elem_Sub)]
def gs_field_Elem_Neg : List Gv := []
noncomputable def ls_field_Elem_Neg : List (Nat × Lf) := []
theorem r_field_Elem_Neg : ∀ x, run Tryd.prog (fun g => lkG g (cs_field_Elem_Neg)) (glAt gs_field_Elem_Neg 0) (gs_field_Elem_Neg.length + 0) (memAt gs_field_Elem_Neg 0 ++ (unc gs_field_Elem_Neg.length (Ag.mk ((.one (.ints .u64 5))) x)).2) (fun i => lkL i (ls_field_Elem_Neg)) 100 Tryd.f13 (unc gs_field_Elem_Neg.length (Ag.mk ((.one (.ints .u64 5))) x)).1 none (Pt.get ((.ints .u64 5))) = some (field_Elem_Neg x) := by
  intro x; kernel_rfl
theorem s_field_Elem_Neg {w0 : World}  (h8 : SoundAt Tryd.prog w0 8 ct_field_Elem_Sub) : SoundAt Tryd.prog w0 13 ct_field_Elem_Neg := by
  have hcs : ∀ x ∈ cs_field_Elem_Neg, SoundAt Tryd.prog w0 x.1 x.2 := by
    intro x hx
    simp only [cs_field_Elem_Neg, List.mem_cons, List.not_mem_nil, or_false] at hx
    rcases hx with rfl
    · exact h8
  exact sound_tct (fn_printed hcs (glob_nil _ _) Tryd.func13 (by kernel_rfl) (by kernel_rfl) (S := 0) (fun w _ => loopsOK_nil _) (fun _ => rfl) (r_field_Elem_Neg)) fun _ _ => rfl
theorem k_field_Elem_Neg {w0 : World}  : SoundAt Tryd.prog w0 13 ct_field_Elem_Neg :=
  s_field_Elem_Neg (k_field_Elem_Sub)

def ct_bits_Mul64 : Ct := tct (.cons (.int .u64) (.one (.int .u64))) (.tup (.cons (.int .u64) (.one (.int .u64)))) fun x => bits_Mul64 x.1 x.2
def cs_bits_Mul64 : List (FuncId × Ct) := []
def gs_bits_Mul64 : List Gv := []
noncomputable def ls_bits_Mul64 : List (Nat × Lf) := []
theorem r_bits_Mul64 : ∀ x, run Tryd.prog (fun g => lkG g (cs_bits_Mul64)) (glAt gs_bits_Mul64 0) (gs_bits_Mul64.length + 0) (memAt gs_bits_Mul64 0 ++ (unc gs_bits_Mul64.length (Ag.mk ((.cons (.int .u64) (.one (.int .u64)))) x)).2) (fun i => lkL i (ls_bits_Mul64)) 100 Tryd.f43 (unc gs_bits_Mul64.length (Ag.mk ((.cons (.int .u64) (.one (.int .u64)))) x)).1 none (Pt.get ((.tup (.cons (.int .u64) (.one (.int .u64)))))) = some (bits_Mul64 x.1 x.2) := by
  intro x; kernel_rfl
theorem s_bits_Mul64 {w0 : World}  : SoundAt Tryd.prog w0 43 ct_bits_Mul64 := by
  have hcs : ∀ x ∈ cs_bits_Mul64, SoundAt Tryd.prog w0 x.1 x.2 := by
    intro x hx
    simp [cs_bits_Mul64] at hx
  exact sound_tct (fn_printed hcs (glob_nil _ _) Tryd.func43 (by kernel_rfl) (by kernel_rfl) (S := 0) (fun w _ => loopsOK_nil _) (fun _ => rfl) (r_bits_Mul64)) fun _ _ => rfl
theorem k_bits_Mul64 {w0 : World}  : SoundAt Tryd.prog w0 43 ct_bits_Mul64 :=
  s_bits_Mul64

def ct_field_double_plus : Ct := fct (.cons (.agg (.cons (.int .u64) (.one (.int .u64)))) (.cons (.int .u64) (.one (.int .u64)))) (.agg (.cons (.int .u64) (.one (.int .u64)))) fun x => field_double_plus x.1 x.2.1 x.2.2
def cs_field_double_plus : List (FuncId × Ct) := [(43, ct_bits_Mul64), (44, ct_bits_Add64)]
def gs_field_double_plus : List Gv := []
noncomputable def ls_field_double_plus : List (Nat × Lf) := []
theorem r_field_double_plus : ∀ x, run Tryd.prog (fun g => lkG g (cs_field_double_plus)) (glAt gs_field_double_plus 0) (gs_field_double_plus.length + 0) (memAt gs_field_double_plus 0 ++ (unc gs_field_double_plus.length (Ag.mk ((.cons (.agg (.cons (.int .u64) (.one (.int .u64)))) (.cons (.int .u64) (.one (.int .u64))))) x)).2) (fun i => lkL i (ls_field_double_plus)) 100 Tryd.f30 (unc gs_field_double_plus.length (Ag.mk ((.cons (.agg (.cons (.int .u64) (.one (.int .u64)))) (.cons (.int .u64) (.one (.int .u64))))) x)).1 none (Pt.get ((.agg (.cons (.int .u64) (.one (.int .u64)))))) = field_double_plus x.1 x.2.1 x.2.2 := by
  intro x; kernel_rfl
theorem s_field_double_plus {w0 : World}  (h43 : SoundAt Tryd.prog w0 43 ct_bits_Mul64) (h44 : SoundAt Tryd.prog w0 44 ct_bits_Add64) : SoundAt Tryd.prog w0 30 ct_field_double_plus := by
  have hcs : ∀ x ∈ cs_field_double_plus, SoundAt Tryd.prog w0 x.1 x.2 := by
    intro x hx
    simp only [cs_field_double_plus, List.mem_cons, List.not_mem_nil, or_false] at hx
    rcases hx with rfl | rfl
    · exact h43
    · exact h44
  exact fn_printed hcs (glob_nil _ _) Tryd.func30 (by kernel_rfl) (by kernel_rfl) (S := 0) (fun w _ => loopsOK_nil _) (fun _ => rfl) (r_field_double_plus)
theorem k_field_double_plus {w0 : World}  : SoundAt Tryd.prog w0 30 ct_field_double_plus :=
  s_field_double_plus (k_bits_Mul64) (k_bits_Add64)

def ct_field_double_over : Ct := tct (.one (.agg (.cons (.int .u64) (.one (.int .u64))))) (.int .u64) fun x => field_double_over x
def cs_field_double_over : List (FuncId × Ct) := []
def gs_field_double_over : List Gv := []
noncomputable def ls_field_double_over : List (Nat × Lf) := []
theorem r_field_double_over : ∀ x, run Tryd.prog (fun g => lkG g (cs_field_double_over)) (glAt gs_field_double_over 0) (gs_field_double_over.length + 0) (memAt gs_field_double_over 0 ++ (unc gs_field_double_over.length (Ag.mk ((.one (.agg (.cons (.int .u64) (.one (.int .u64)))))) x)).2) (fun i => lkL i (ls_field_double_over)) 100 Tryd.f45 (unc gs_field_double_over.length (Ag.mk ((.one (.agg (.cons (.int .u64) (.one (.int .u64)))))) x)).1 none (Pt.get ((.int .u64))) = some (field_double_over x) := by
  intro x; kernel_rfl
theorem s_field_double_over {w0 : World}  : SoundAt Tryd.prog w0 45 ct_field_double_over := by
  have hcs : ∀ x ∈ cs_field_double_over, SoundAt Tryd.prog w0 x.1 x.2 := by
    intro x hx
    simp [cs_field_double_over] at hx
  exact sound_tct (fn_printed hcs (glob_nil _ _) Tryd.func45 (by kernel_rfl) (by kernel_rfl) (S := 0) (fun w _ => loopsOK_nil _) (fun _ => rfl) (r_field_double_over)) fun _ _ => rfl
theorem k_field_double_over {w0 : World}  : SoundAt Tryd.prog w0 45 ct_field_double_over :=
  s_field_double_over

def ct_field_carried : Ct := fct (.cons (.agg (.cons (.int .u64) (.one (.int .u64)))) (.cons (.agg (.cons (.int .u64) (.one (.int .u64)))) (.cons (.agg (.cons (.int .u64) (.one (.int .u64)))) (.cons (.agg (.cons (.int .u64) (.one (.int .u64)))) (.one (.agg (.cons (.int .u64) (.one (.int .u64))))))))) (.ints .u64 5) fun x => field_carried x.1 x.2.1 x.2.2.1 x.2.2.2.1 x.2.2.2.2
def cs_field_carried : List (FuncId × Ct) := [(28, ct_field_closed), (30, ct_field_double_plus), (45, ct_field_double_over)]
def gs_field_carried : List Gv := []
noncomputable def ls_field_carried : List (Nat × Lf) := []
theorem r_field_carried : ∀ x, run Tryd.prog (fun g => lkG g (cs_field_carried)) (glAt gs_field_carried 0) (gs_field_carried.length + 0) (memAt gs_field_carried 0 ++ (unc gs_field_carried.length (Ag.mk ((.cons (.agg (.cons (.int .u64) (.one (.int .u64)))) (.cons (.agg (.cons (.int .u64) (.one (.int .u64)))) (.cons (.agg (.cons (.int .u64) (.one (.int .u64)))) (.cons (.agg (.cons (.int .u64) (.one (.int .u64)))) (.one (.agg (.cons (.int .u64) (.one (.int .u64)))))))))) x)).2) (fun i => lkL i (ls_field_carried)) 100 Tryd.f31 (unc gs_field_carried.length (Ag.mk ((.cons (.agg (.cons (.int .u64) (.one (.int .u64)))) (.cons (.agg (.cons (.int .u64) (.one (.int .u64)))) (.cons (.agg (.cons (.int .u64) (.one (.int .u64)))) (.cons (.agg (.cons (.int .u64) (.one (.int .u64)))) (.one (.agg (.cons (.int .u64) (.one (.int .u64)))))))))) x)).1 none (Pt.get ((.ints .u64 5))) = field_carried x.1 x.2.1 x.2.2.1 x.2.2.2.1 x.2.2.2.2 := by
  intro x; kernel_rfl
theorem s_field_carried {w0 : World}  (h28 : SoundAt Tryd.prog w0 28 ct_field_closed) (h30 : SoundAt Tryd.prog w0 30 ct_field_double_plus) (h45 : SoundAt Tryd.prog w0 45 ct_field_double_over) : SoundAt Tryd.prog w0 31 ct_field_carried := by
  have hcs : ∀ x ∈ cs_field_carried, SoundAt Tryd.prog w0 x.1 x.2 := by
    intro x hx
    simp only [cs_field_carried, List.mem_cons, List.not_mem_nil, or_false] at hx
    rcases hx with rfl | rfl | rfl
    · exact h28
    · exact h30
    · exact h45
  exact fn_printed hcs (glob_nil _ _) Tryd.func31 (by kernel_rfl) (by kernel_rfl) (S := 0) (fun w _ => loopsOK_nil _) (fun _ => rfl) (r_field_carried)
theorem k_field_carried {w0 : World}  : SoundAt Tryd.prog w0 31 ct_field_carried :=
  s_field_carried (k_field_closed) (k_field_double_plus) (k_field_double_over)

def ct_field_Elem_Mul : Ct := fct (.cons (.ints .u64 5) (.one (.ints .u64 5))) (.ints .u64 5) fun x => field_Elem_Mul x.1 x.2
def cs_field_Elem_Mul : List (FuncId × Ct) := [(24, ct_field_Elem_Least), (27, ct_field_Elem_slim), (30, ct_field_double_plus), (31, ct_field_carried)]
def gs_field_Elem_Mul : List Gv := []
noncomputable def ls_field_Elem_Mul : List (Nat × Lf) := []
theorem r_field_Elem_Mul : ∀ x, run Tryd.prog (fun g => lkG g (cs_field_Elem_Mul)) (glAt gs_field_Elem_Mul 0) (gs_field_Elem_Mul.length + 0) (memAt gs_field_Elem_Mul 0 ++ (unc gs_field_Elem_Mul.length (Ag.mk ((.cons (.ints .u64 5) (.one (.ints .u64 5)))) x)).2) (fun i => lkL i (ls_field_Elem_Mul)) 100 Tryd.f10 (unc gs_field_Elem_Mul.length (Ag.mk ((.cons (.ints .u64 5) (.one (.ints .u64 5)))) x)).1 none (Pt.get ((.ints .u64 5))) = field_Elem_Mul x.1 x.2 := by
  intro x; kernel_rfl
theorem s_field_Elem_Mul {w0 : World}  (h24 : SoundAt Tryd.prog w0 24 ct_field_Elem_Least) (h27 : SoundAt Tryd.prog w0 27 ct_field_Elem_slim) (h30 : SoundAt Tryd.prog w0 30 ct_field_double_plus) (h31 : SoundAt Tryd.prog w0 31 ct_field_carried) : SoundAt Tryd.prog w0 10 ct_field_Elem_Mul := by
  have hcs : ∀ x ∈ cs_field_Elem_Mul, SoundAt Tryd.prog w0 x.1 x.2 := by
    intro x hx
    simp only [cs_field_Elem_Mul, List.mem_cons, List.not_mem_nil, or_false] at hx
    rcases hx with rfl | rfl | rfl | rfl
    · exact h24
    · exact h27
    · exact h30
    · exact h31
  exact fn_printed hcs (glob_nil _ _) Tryd.func10 (by kernel_rfl) (by kernel_rfl) (S := 0) (fun w _ => loopsOK_nil _) (fun _ => rfl) (r_field_Elem_Mul)
theorem k_field_Elem_Mul {w0 : World}  : SoundAt Tryd.prog w0 10 ct_field_Elem_Mul :=
  s_field_Elem_Mul (k_field_Elem_Least) (k_field_Elem_slim) (k_field_double_plus) (k_field_carried)

def ct_field_Elem_Square : Ct := fct (.one (.ints .u64 5)) (.ints .u64 5) fun x => field_Elem_Square x
def cs_field_Elem_Square : List (FuncId × Ct) := [(24, ct_field_Elem_Least), (27, ct_field_Elem_slim), (30, ct_field_double_plus), (31, ct_field_carried)]
def gs_field_Elem_Square : List Gv := []
noncomputable def ls_field_Elem_Square : List (Nat × Lf) := []
theorem r_field_Elem_Square : ∀ x, run Tryd.prog (fun g => lkG g (cs_field_Elem_Square)) (glAt gs_field_Elem_Square 0) (gs_field_Elem_Square.length + 0) (memAt gs_field_Elem_Square 0 ++ (unc gs_field_Elem_Square.length (Ag.mk ((.one (.ints .u64 5))) x)).2) (fun i => lkL i (ls_field_Elem_Square)) 100 Tryd.f12 (unc gs_field_Elem_Square.length (Ag.mk ((.one (.ints .u64 5))) x)).1 none (Pt.get ((.ints .u64 5))) = field_Elem_Square x := by
  intro x; kernel_rfl
theorem s_field_Elem_Square {w0 : World}  (h24 : SoundAt Tryd.prog w0 24 ct_field_Elem_Least) (h27 : SoundAt Tryd.prog w0 27 ct_field_Elem_slim) (h30 : SoundAt Tryd.prog w0 30 ct_field_double_plus) (h31 : SoundAt Tryd.prog w0 31 ct_field_carried) : SoundAt Tryd.prog w0 12 ct_field_Elem_Square := by
  have hcs : ∀ x ∈ cs_field_Elem_Square, SoundAt Tryd.prog w0 x.1 x.2 := by
    intro x hx
    simp only [cs_field_Elem_Square, List.mem_cons, List.not_mem_nil, or_false] at hx
    rcases hx with rfl | rfl | rfl | rfl
    · exact h24
    · exact h27
    · exact h30
    · exact h31
  exact fn_printed hcs (glob_nil _ _) Tryd.func12 (by kernel_rfl) (by kernel_rfl) (S := 0) (fun w _ => loopsOK_nil _) (fun _ => rfl) (r_field_Elem_Square)
theorem k_field_Elem_Square {w0 : World}  : SoundAt Tryd.prog w0 12 ct_field_Elem_Square :=
  s_field_Elem_Square (k_field_Elem_Least) (k_field_Elem_slim) (k_field_double_plus) (k_field_carried)

def ct_field_Elem_Encode : Ct := tct (.one (.ints .u64 5)) (.ints .u8 32) fun x => field_Elem_Encode x
def cs_field_Elem_Encode : List (FuncId × Ct) := [(24, ct_field_Elem_Least)]
def gs_field_Elem_Encode : List Gv := []
noncomputable def ls_field_Elem_Encode : List (Nat × Lf) := []
theorem r_field_Elem_Encode : ∀ x, run Tryd.prog (fun g => lkG g (cs_field_Elem_Encode)) (glAt gs_field_Elem_Encode 0) (gs_field_Elem_Encode.length + 0) (memAt gs_field_Elem_Encode 0 ++ (unc gs_field_Elem_Encode.length (Ag.mk ((.one (.ints .u64 5))) x)).2) (fun i => lkL i (ls_field_Elem_Encode)) 100 Tryd.f20 (unc gs_field_Elem_Encode.length (Ag.mk ((.one (.ints .u64 5))) x)).1 none (Pt.get ((.ints .u8 32))) = some (field_Elem_Encode x) := by
  intro x; kernel_rfl
theorem s_field_Elem_Encode {w0 : World}  (h24 : SoundAt Tryd.prog w0 24 ct_field_Elem_Least) : SoundAt Tryd.prog w0 20 ct_field_Elem_Encode := by
  have hcs : ∀ x ∈ cs_field_Elem_Encode, SoundAt Tryd.prog w0 x.1 x.2 := by
    intro x hx
    simp only [cs_field_Elem_Encode, List.mem_cons, List.not_mem_nil, or_false] at hx
    rcases hx with rfl
    · exact h24
  exact sound_tct (fn_printed hcs (glob_nil _ _) Tryd.func20 (by kernel_rfl) (by kernel_rfl) (S := 0) (fun w _ => loopsOK_nil _) (fun _ => rfl) (r_field_Elem_Encode)) fun _ _ => rfl
theorem k_field_Elem_Encode {w0 : World}  : SoundAt Tryd.prog w0 20 ct_field_Elem_Encode :=
  s_field_Elem_Encode (k_field_Elem_Least)

def ct_field_Elem_squares (N : Nat) : Ct := fct (.cons (.ints .u64 5) (.one (.int .i64))) (.ints .u64 5) fun x => field_Elem_squares N x.1 x.2
def cs_field_Elem_squares (N : Nat) : List (FuncId × Ct) := [(12, ct_field_Elem_Square)]
def gs_field_Elem_squares : List Gv := []
def field_Elem_squares_l0_H : Fm ((Unit × Unit × Int × Int)) ((List Int × Unit)) := ⟨(.cons 2 (.lit (.ptr 0 [] 30)) (.cons 4 (.lit (.ptr 1 [] 30)) (.cons 5 (.int .i64) (.one 6 (.int .i64))))), (.cons 0 (.ints .u64 5) (.one 1 (.lit (.ints .u64 5 [0, 0, 0, 0, 0]))))⟩
def field_Elem_squares_l0_O : Fm ((Unit × Unit)) ((List Int × Unit)) := ⟨(.cons 2 (.lit (.ptr 0 [] 30)) (.one 4 (.lit (.ptr 1 [] 30)))), (.cons 0 (.ints .u64 5) (.one 1 (.lit (.ints .u64 5 [0, 0, 0, 0, 0]))))⟩
def field_Elem_squares_l0_T : Fm (Unit) (Unit) := ⟨.nil, .nil⟩
noncomputable def ls_field_Elem_squares (N : Nat) : List (Nat × Lf) := [(0, loopCt field_Elem_squares_l0_H field_Elem_squares_l0_O field_Elem_squares_l0_T 4 (field_Elem_squares_l0 N) N)]
theorem field_Elem_squares_l0_step (N : Nat) : ∀ v, exec Tryd.prog (cxOf Tryd.f34 (cs_field_Elem_squares N) gs_field_Elem_squares 0) (fun i => lkL i (ls_field_Elem_squares N)) 100 none (loopBody Tryd.f34 0) (field_Elem_squares_l0_H.st 4 v) (rdEnd field_Elem_squares_l0_H field_Elem_squares_l0_O field_Elem_squares_l0_T 4 0) = field_Elem_squares_l0 N v := by
  intro v; kernel_rfl
theorem r_field_Elem_squares (N : Nat) : ∀ x, run Tryd.prog (fun g => lkG g (cs_field_Elem_squares N)) (glAt gs_field_Elem_squares 0) (gs_field_Elem_squares.length + 0) (memAt gs_field_Elem_squares 0 ++ (unc gs_field_Elem_squares.length (Ag.mk ((.cons (.ints .u64 5) (.one (.int .i64)))) x)).2) (fun i => lkL i (ls_field_Elem_squares N)) 100 Tryd.f34 (unc gs_field_Elem_squares.length (Ag.mk ((.cons (.ints .u64 5) (.one (.int .i64)))) x)).1 none (Pt.get ((.ints .u64 5))) = field_Elem_squares N x.1 x.2 := by
  intro x; kernel_rfl
theorem s_field_Elem_squares {w0 : World} (N : Nat)  (h12 : SoundAt Tryd.prog w0 12 ct_field_Elem_Square) : SoundAt Tryd.prog w0 34 (ct_field_Elem_squares N) := by
  have hcs : ∀ x ∈ cs_field_Elem_squares N, SoundAt Tryd.prog w0 x.1 x.2 := by
    intro x hx
    simp only [cs_field_Elem_squares, List.mem_cons, List.not_mem_nil, or_false] at hx
    rcases hx with rfl
    · exact h12
  have L0 : ∀ w, RowKit.Below w0.heap.size w0 w → LoopOK Tryd.prog (cxOf Tryd.f34 (cs_field_Elem_squares N) gs_field_Elem_squares 0) w 0 (.loop (loopBody Tryd.f34 0)) (loopCt field_Elem_squares_l0_H field_Elem_squares_l0_O field_Elem_squares_l0_T 4 (field_Elem_squares_l0 N) N) :=
    loop_printed hcs (ls := ls_field_Elem_squares N) (n := 100) (by kernel_rfl) (field_Elem_squares_l0_step N) N fun w hw => loopsOK_list (by
      intro x hx
      simp only [ls_field_Elem_squares, List.mem_cons, List.not_mem_nil, or_false] at hx
      rcases hx with rfl
      · exact .inl (by kernel_rfl)
    )
  exact fn_printed hcs (glob_nil _ _) Tryd.func34 (by kernel_rfl) (by kernel_rfl) (S := 0) (fun w hw => loopsOK_list (by
    intro x hx
    simp only [ls_field_Elem_squares, List.mem_cons, List.not_mem_nil, or_false] at hx
    rcases hx with rfl
    · exact .inr ⟨_, by kernel_rfl, L0 w hw⟩
  )) (fun _ => rfl) (r_field_Elem_squares N)
theorem k_field_Elem_squares {w0 : World} (N : Nat)  : SoundAt Tryd.prog w0 34 (ct_field_Elem_squares N) :=
  s_field_Elem_squares N (k_field_Elem_Square)

def ct_field_Elem_ones (N : Nat) : Ct := fct (.one (.ints .u64 5)) (.tup (.cons (.ints .u64 5) (.one (.ints .u64 5)))) fun x => field_Elem_ones N x
def cs_field_Elem_ones (N : Nat) : List (FuncId × Ct) := [(10, ct_field_Elem_Mul), (12, ct_field_Elem_Square), (34, (ct_field_Elem_squares N))]
def gs_field_Elem_ones : List Gv := []
noncomputable def ls_field_Elem_ones (N : Nat) : List (Nat × Lf) := []
theorem r_field_Elem_ones (N : Nat) : ∀ x, run Tryd.prog (fun g => lkG g (cs_field_Elem_ones N)) (glAt gs_field_Elem_ones 0) (gs_field_Elem_ones.length + 0) (memAt gs_field_Elem_ones 0 ++ (unc gs_field_Elem_ones.length (Ag.mk ((.one (.ints .u64 5))) x)).2) (fun i => lkL i (ls_field_Elem_ones N)) 100 Tryd.f33 (unc gs_field_Elem_ones.length (Ag.mk ((.one (.ints .u64 5))) x)).1 none (Pt.get ((.tup (.cons (.ints .u64 5) (.one (.ints .u64 5)))))) = field_Elem_ones N x := by
  intro x; kernel_rfl
theorem s_field_Elem_ones {w0 : World} (N : Nat)  (h10 : SoundAt Tryd.prog w0 10 ct_field_Elem_Mul) (h12 : SoundAt Tryd.prog w0 12 ct_field_Elem_Square) (h34 : SoundAt Tryd.prog w0 34 (ct_field_Elem_squares N)) : SoundAt Tryd.prog w0 33 (ct_field_Elem_ones N) := by
  have hcs : ∀ x ∈ cs_field_Elem_ones N, SoundAt Tryd.prog w0 x.1 x.2 := by
    intro x hx
    simp only [cs_field_Elem_ones, List.mem_cons, List.not_mem_nil, or_false] at hx
    rcases hx with rfl | rfl | rfl
    · exact h10
    · exact h12
    · exact h34
  exact fn_printed hcs (glob_nil _ _) Tryd.func33 (by kernel_rfl) (by kernel_rfl) (S := 0) (fun w _ => loopsOK_nil _) (fun _ => rfl) (r_field_Elem_ones N)
theorem k_field_Elem_ones {w0 : World} (N : Nat)  : SoundAt Tryd.prog w0 33 (ct_field_Elem_ones N) :=
  s_field_Elem_ones N (k_field_Elem_Mul) (k_field_Elem_Square) (k_field_Elem_squares N)

def ct_field_Elem_Invert (N : Nat) : Ct := fct (.one (.ints .u64 5)) (.ints .u64 5) fun x => field_Elem_Invert N x
def cs_field_Elem_Invert (N : Nat) : List (FuncId × Ct) := [(10, ct_field_Elem_Mul), (33, (ct_field_Elem_ones N)), (34, (ct_field_Elem_squares N))]
def gs_field_Elem_Invert : List Gv := []
noncomputable def ls_field_Elem_Invert (N : Nat) : List (Nat × Lf) := []
theorem r_field_Elem_Invert (N : Nat) : ∀ x, run Tryd.prog (fun g => lkG g (cs_field_Elem_Invert N)) (glAt gs_field_Elem_Invert 0) (gs_field_Elem_Invert.length + 0) (memAt gs_field_Elem_Invert 0 ++ (unc gs_field_Elem_Invert.length (Ag.mk ((.one (.ints .u64 5))) x)).2) (fun i => lkL i (ls_field_Elem_Invert N)) 100 Tryd.f15 (unc gs_field_Elem_Invert.length (Ag.mk ((.one (.ints .u64 5))) x)).1 none (Pt.get ((.ints .u64 5))) = field_Elem_Invert N x := by
  intro x; kernel_rfl
theorem s_field_Elem_Invert {w0 : World} (N : Nat)  (h10 : SoundAt Tryd.prog w0 10 ct_field_Elem_Mul) (h33 : SoundAt Tryd.prog w0 33 (ct_field_Elem_ones N)) (h34 : SoundAt Tryd.prog w0 34 (ct_field_Elem_squares N)) : SoundAt Tryd.prog w0 15 (ct_field_Elem_Invert N) := by
  have hcs : ∀ x ∈ cs_field_Elem_Invert N, SoundAt Tryd.prog w0 x.1 x.2 := by
    intro x hx
    simp only [cs_field_Elem_Invert, List.mem_cons, List.not_mem_nil, or_false] at hx
    rcases hx with rfl | rfl | rfl
    · exact h10
    · exact h33
    · exact h34
  exact fn_printed hcs (glob_nil _ _) Tryd.func15 (by kernel_rfl) (by kernel_rfl) (S := 0) (fun w _ => loopsOK_nil _) (fun _ => rfl) (r_field_Elem_Invert N)
theorem k_field_Elem_Invert {w0 : World} (N : Nat)  : SoundAt Tryd.prog w0 15 (ct_field_Elem_Invert N) :=
  s_field_Elem_Invert N (k_field_Elem_Mul) (k_field_Elem_ones N) (k_field_Elem_squares N)

def ct_field_Elem_root (N : Nat) : Ct := fct (.one (.ints .u64 5)) (.ints .u64 5) fun x => field_Elem_root N x
def cs_field_Elem_root (N : Nat) : List (FuncId × Ct) := [(10, ct_field_Elem_Mul), (33, (ct_field_Elem_ones N)), (34, (ct_field_Elem_squares N))]
def gs_field_Elem_root : List Gv := []
noncomputable def ls_field_Elem_root (N : Nat) : List (Nat × Lf) := []
theorem r_field_Elem_root (N : Nat) : ∀ x, run Tryd.prog (fun g => lkG g (cs_field_Elem_root N)) (glAt gs_field_Elem_root 0) (gs_field_Elem_root.length + 0) (memAt gs_field_Elem_root 0 ++ (unc gs_field_Elem_root.length (Ag.mk ((.one (.ints .u64 5))) x)).2) (fun i => lkL i (ls_field_Elem_root N)) 100 Tryd.f36 (unc gs_field_Elem_root.length (Ag.mk ((.one (.ints .u64 5))) x)).1 none (Pt.get ((.ints .u64 5))) = field_Elem_root N x := by
  intro x; kernel_rfl
theorem s_field_Elem_root {w0 : World} (N : Nat)  (h10 : SoundAt Tryd.prog w0 10 ct_field_Elem_Mul) (h33 : SoundAt Tryd.prog w0 33 (ct_field_Elem_ones N)) (h34 : SoundAt Tryd.prog w0 34 (ct_field_Elem_squares N)) : SoundAt Tryd.prog w0 36 (ct_field_Elem_root N) := by
  have hcs : ∀ x ∈ cs_field_Elem_root N, SoundAt Tryd.prog w0 x.1 x.2 := by
    intro x hx
    simp only [cs_field_Elem_root, List.mem_cons, List.not_mem_nil, or_false] at hx
    rcases hx with rfl | rfl | rfl
    · exact h10
    · exact h33
    · exact h34
  exact fn_printed hcs (glob_nil _ _) Tryd.func36 (by kernel_rfl) (by kernel_rfl) (S := 0) (fun w _ => loopsOK_nil _) (fun _ => rfl) (r_field_Elem_root N)
theorem k_field_Elem_root {w0 : World} (N : Nat)  : SoundAt Tryd.prog w0 36 (ct_field_Elem_root N) :=
  s_field_Elem_root N (k_field_Elem_Mul) (k_field_Elem_ones N) (k_field_Elem_squares N)

def ct_field_Select : Ct := tct (.cons (.int .i64) (.cons (.ints .u64 5) (.one (.ints .u64 5)))) (.ints .u64 5) fun x => field_Select x.1 x.2.1 x.2.2
def cs_field_Select : List (FuncId × Ct) := [(24, ct_field_Elem_Least)]
def gs_field_Select : List Gv := []
noncomputable def ls_field_Select : List (Nat × Lf) := []
theorem r_field_Select : ∀ x, run Tryd.prog (fun g => lkG g (cs_field_Select)) (glAt gs_field_Select 0) (gs_field_Select.length + 0) (memAt gs_field_Select 0 ++ (unc gs_field_Select.length (Ag.mk ((.cons (.int .i64) (.cons (.ints .u64 5) (.one (.ints .u64 5))))) x)).2) (fun i => lkL i (ls_field_Select)) 100 Tryd.f19 (unc gs_field_Select.length (Ag.mk ((.cons (.int .i64) (.cons (.ints .u64 5) (.one (.ints .u64 5))))) x)).1 none (Pt.get ((.ints .u64 5))) = some (field_Select x.1 x.2.1 x.2.2) := by
  intro x; kernel_rfl
theorem s_field_Select {w0 : World}  (h24 : SoundAt Tryd.prog w0 24 ct_field_Elem_Least) : SoundAt Tryd.prog w0 19 ct_field_Select := by
  have hcs : ∀ x ∈ cs_field_Select, SoundAt Tryd.prog w0 x.1 x.2 := by
    intro x hx
    simp only [cs_field_Select, List.mem_cons, List.not_mem_nil, or_false] at hx
    rcases hx with rfl
    · exact h24
  exact sound_tct (fn_printed hcs (glob_nil _ _) Tryd.func19 (by kernel_rfl) (by kernel_rfl) (S := 0) (fun w _ => loopsOK_nil _) (fun _ => rfl) (r_field_Select)) fun _ _ => rfl
theorem k_field_Select {w0 : World}  : SoundAt Tryd.prog w0 19 ct_field_Select :=
  s_field_Select (k_field_Elem_Least)

def ct_field_Elem_Abs : Ct := tct (.one (.ints .u64 5)) (.ints .u64 5) fun x => field_Elem_Abs x
def cs_field_Elem_Abs : List (FuncId × Ct) := [(13, ct_field_Elem_Neg), (19, ct_field_Select), (24, ct_field_Elem_Least)]
def gs_field_Elem_Abs : List Gv := []
noncomputable def ls_field_Elem_Abs : List (Nat × Lf) := []
theorem r_field_Elem_Abs : ∀ x, run Tryd.prog (fun g => lkG g (cs_field_Elem_Abs)) (glAt gs_field_Elem_Abs 0) (gs_field_Elem_Abs.length + 0) (memAt gs_field_Elem_Abs 0 ++ (unc gs_field_Elem_Abs.length (Ag.mk ((.one (.ints .u64 5))) x)).2) (fun i => lkL i (ls_field_Elem_Abs)) 100 Tryd.f17 (unc gs_field_Elem_Abs.length (Ag.mk ((.one (.ints .u64 5))) x)).1 none (Pt.get ((.ints .u64 5))) = some (field_Elem_Abs x) := by
  intro x; kernel_rfl
theorem s_field_Elem_Abs {w0 : World}  (h13 : SoundAt Tryd.prog w0 13 ct_field_Elem_Neg) (h19 : SoundAt Tryd.prog w0 19 ct_field_Select) (h24 : SoundAt Tryd.prog w0 24 ct_field_Elem_Least) : SoundAt Tryd.prog w0 17 ct_field_Elem_Abs := by
  have hcs : ∀ x ∈ cs_field_Elem_Abs, SoundAt Tryd.prog w0 x.1 x.2 := by
    intro x hx
    simp only [cs_field_Elem_Abs, List.mem_cons, List.not_mem_nil, or_false] at hx
    rcases hx with rfl | rfl | rfl
    · exact h13
    · exact h19
    · exact h24
  exact sound_tct (fn_printed hcs (glob_nil _ _) Tryd.func17 (by kernel_rfl) (by kernel_rfl) (S := 0) (fun w _ => loopsOK_nil _) (fun _ => rfl) (r_field_Elem_Abs)) fun _ _ => rfl
theorem k_field_Elem_Abs {w0 : World}  : SoundAt Tryd.prog w0 17 ct_field_Elem_Abs :=
  s_field_Elem_Abs (k_field_Elem_Neg) (k_field_Select) (k_field_Elem_Least)

def ct_field_SqrtRatio (N : Nat) : Ct := fct (.cons (.ints .u64 5) (.one (.ints .u64 5))) (.tup (.cons (.ints .u64 5) (.one .bool))) fun x => field_SqrtRatio N x.1 x.2
def cs_field_SqrtRatio (N : Nat) : List (FuncId × Ct) := [(10, ct_field_Elem_Mul), (12, ct_field_Elem_Square), (13, ct_field_Elem_Neg), (17, ct_field_Elem_Abs), (24, ct_field_Elem_Least), (36, (ct_field_Elem_root N))]
def gs_field_SqrtRatio : List Gv := [⟨2, 64, (.rows 7 fun i => .ints .u64 5 (field_tab i))⟩]
noncomputable def ls_field_SqrtRatio (N : Nat) : List (Nat × Lf) := []
theorem r_field_SqrtRatio (N : Nat) : ∀ x, run Tryd.prog (fun g => lkG g (cs_field_SqrtRatio N)) (glAt gs_field_SqrtRatio 0) (gs_field_SqrtRatio.length + 0) (memAt gs_field_SqrtRatio 0 ++ (unc gs_field_SqrtRatio.length (Ag.mk ((.cons (.ints .u64 5) (.one (.ints .u64 5)))) x)).2) (fun i => lkL i (ls_field_SqrtRatio N)) 100 Tryd.f22 (unc gs_field_SqrtRatio.length (Ag.mk ((.cons (.ints .u64 5) (.one (.ints .u64 5)))) x)).1 none (Pt.get ((.tup (.cons (.ints .u64 5) (.one .bool))))) = field_SqrtRatio N x.1 x.2 := by
  intro x; kernel_rfl
theorem s_field_SqrtRatio {w0 : World} (N : Nat)  (h10 : SoundAt Tryd.prog w0 10 ct_field_Elem_Mul) (h12 : SoundAt Tryd.prog w0 12 ct_field_Elem_Square) (h13 : SoundAt Tryd.prog w0 13 ct_field_Elem_Neg) (h17 : SoundAt Tryd.prog w0 17 ct_field_Elem_Abs) (h24 : SoundAt Tryd.prog w0 24 ct_field_Elem_Least) (h36 : SoundAt Tryd.prog w0 36 (ct_field_Elem_root N)) (hg : GlobOK Tryd.prog w0 gs_field_SqrtRatio) : SoundAt Tryd.prog w0 22 (ct_field_SqrtRatio N) := by
  have hcs : ∀ x ∈ cs_field_SqrtRatio N, SoundAt Tryd.prog w0 x.1 x.2 := by
    intro x hx
    simp only [cs_field_SqrtRatio, List.mem_cons, List.not_mem_nil, or_false] at hx
    rcases hx with rfl | rfl | rfl | rfl | rfl | rfl
    · exact h10
    · exact h12
    · exact h13
    · exact h17
    · exact h24
    · exact h36
  exact fn_printed hcs hg Tryd.func22 (by kernel_rfl) (by kernel_rfl) (S := 0) (fun w _ => loopsOK_nil _) (fun _ => rfl) (r_field_SqrtRatio N)
theorem k_field_SqrtRatio {w0 : World} (N : Nat)  (hg_field_SqrtRatio : GlobOK Tryd.prog w0 gs_field_SqrtRatio) : SoundAt Tryd.prog w0 22 (ct_field_SqrtRatio N) :=
  s_field_SqrtRatio N (k_field_Elem_Mul) (k_field_Elem_Square) (k_field_Elem_Neg) (k_field_Elem_Abs) (k_field_Elem_Least) (k_field_Elem_root N) hg_field_SqrtRatio

def ct_veilref01_below : Ct := tct (.cons (.ints .i64 10) (.one (.ints .i64 10))) .bool fun x => veilref01_below x.1 x.2
def cs_veilref01_below : List (FuncId × Ct) := []
def gs_veilref01_below : List Gv := []
noncomputable def ls_veilref01_below : List (Nat × Lf) := []
theorem r_veilref01_below : ∀ x, run Tryd.prog (fun g => lkG g (cs_veilref01_below)) (glAt gs_veilref01_below 0) (gs_veilref01_below.length + 0) (memAt gs_veilref01_below 0 ++ (unc gs_veilref01_below.length (Ag.mk ((.cons (.ints .i64 10) (.one (.ints .i64 10)))) x)).2) (fun i => lkL i (ls_veilref01_below)) 100 Tryd.f42 (unc gs_veilref01_below.length (Ag.mk ((.cons (.ints .i64 10) (.one (.ints .i64 10)))) x)).1 none (Pt.get (.bool)) = veilref01_below_o x.1 x.2 := by
  intro x; kernel_rfl
theorem s_veilref01_below {w0 : World}  : SoundAt Tryd.prog w0 42 ct_veilref01_below := by
  have hcs : ∀ x ∈ cs_veilref01_below, SoundAt Tryd.prog w0 x.1 x.2 := by
    intro x hx
    simp [cs_veilref01_below] at hx
  exact sound_tct (fn_printed hcs (glob_nil _ _) Tryd.func42 (by kernel_rfl) (by kernel_rfl) (S := 0) (fun w _ => loopsOK_nil _) (fun _ => rfl) (r_veilref01_below)) fun _ _ => veilref01_below_tot _ _
theorem k_veilref01_below {w0 : World}  : SoundAt Tryd.prog w0 42 ct_veilref01_below :=
  s_veilref01_below

def ct_veilref01_minus : Ct := tct (.cons (.ints .i64 10) (.one (.ints .i64 10))) (.ints .i64 10) fun x => veilref01_minus x.1 x.2
def cs_veilref01_minus : List (FuncId × Ct) := []
def gs_veilref01_minus : List Gv := []
noncomputable def ls_veilref01_minus : List (Nat × Lf) := []
theorem r_veilref01_minus : ∀ x, run Tryd.prog (fun g => lkG g (cs_veilref01_minus)) (glAt gs_veilref01_minus 0) (gs_veilref01_minus.length + 0) (memAt gs_veilref01_minus 0 ++ (unc gs_veilref01_minus.length (Ag.mk ((.cons (.ints .i64 10) (.one (.ints .i64 10)))) x)).2) (fun i => lkL i (ls_veilref01_minus)) 100 Tryd.f32 (unc gs_veilref01_minus.length (Ag.mk ((.cons (.ints .i64 10) (.one (.ints .i64 10)))) x)).1 none (Pt.get ((.ints .i64 10))) = some (veilref01_minus x.1 x.2) := by
  intro x; kernel_rfl
theorem s_veilref01_minus {w0 : World}  : SoundAt Tryd.prog w0 32 ct_veilref01_minus := by
  have hcs : ∀ x ∈ cs_veilref01_minus, SoundAt Tryd.prog w0 x.1 x.2 := by
    intro x hx
    simp [cs_veilref01_minus] at hx
  exact sound_tct (fn_printed hcs (glob_nil _ _) Tryd.func32 (by kernel_rfl) (by kernel_rfl) (S := 0) (fun w _ => loopsOK_nil _) (fun _ => rfl) (r_veilref01_minus)) fun _ _ => rfl
theorem k_veilref01_minus {w0 : World}  : SoundAt Tryd.prog w0 32 ct_veilref01_minus :=
  s_veilref01_minus

def ct_veilref01_least (N : Nat) : Ct := fct (.one (.ints .i64 20)) (.ints .i64 10) fun x => veilref01_least N x
def cs_veilref01_least (N : Nat) : List (FuncId × Ct) := [(32, ct_veilref01_minus), (42, ct_veilref01_below)]
def gs_veilref01_least : List Gv := [⟨1, 26, (.ints .i64 10 [67108845, 67108863, 67108863, 67108863, 67108863, 67108863, 67108863, 67108863, 67108863, 2097151])⟩]
def veilref01_least_l4_H : Fm ((Unit × Int × Unit × Bool)) ((Unit × Unit × List Int)) := ⟨(.cons 2 (.lit (.ptr 2 [] 26)) (.cons 3 (.int .i64) (.cons 5 (.lit (.ptr 387 [] 26)) (.one 7 .bool)))), (.cons 0 (.lit (.ints .i64 10 [67108845, 67108863, 67108863, 67108863, 67108863, 67108863, 67108863, 67108863, 67108863, 2097151])) (.cons 2 (.lit (.ints .i64 10 [0, 0, 0, 0, 0, 0, 0, 0, 0, 0])) (.one 387 (.ints .i64 10))))⟩
def veilref01_least_l4_O : Fm ((Unit × Unit)) ((Unit × Unit × List Int)) := ⟨(.cons 2 (.lit (.ptr 2 [] 26)) (.one 5 (.lit (.ptr 387 [] 26)))), (.cons 0 (.lit (.ints .i64 10 [67108845, 67108863, 67108863, 67108863, 67108863, 67108863, 67108863, 67108863, 67108863, 2097151])) (.cons 2 (.lit (.ints .i64 10 [0, 0, 0, 0, 0, 0, 0, 0, 0, 0])) (.one 387 (.ints .i64 10))))⟩
def veilref01_least_l4_T : Fm (Unit) (Unit) := ⟨.nil, .nil⟩
noncomputable def ls_veilref01_least (N : Nat) : List (Nat × Lf) := [(4, loopCt veilref01_least_l4_H veilref01_least_l4_O veilref01_least_l4_T 563 (veilref01_least_l4 N) N)]
theorem veilref01_least_l4_step (N : Nat) : ∀ v, exec Tryd.prog (cxOf Tryd.f29 (cs_veilref01_least N) gs_veilref01_least 0) (fun i => lkL i (ls_veilref01_least N)) 100 none (loopBody Tryd.f29 4) (veilref01_least_l4_H.st 563 v) (rdEnd veilref01_least_l4_H veilref01_least_l4_O veilref01_least_l4_T 563 4) = veilref01_least_l4 N v := by
  intro v; kernel_rfl
theorem r_veilref01_least (N : Nat) : ∀ x, run Tryd.prog (fun g => lkG g (cs_veilref01_least N)) (glAt gs_veilref01_least 0) (gs_veilref01_least.length + 0) (memAt gs_veilref01_least 0 ++ (unc gs_veilref01_least.length (Ag.mk ((.one (.ints .i64 20))) x)).2) (fun i => lkL i (ls_veilref01_least N)) 100 Tryd.f29 (unc gs_veilref01_least.length (Ag.mk ((.one (.ints .i64 20))) x)).1 none (Pt.get ((.ints .i64 10))) = veilref01_least N x := by
  intro x; kernel_rfl
theorem s_veilref01_least {w0 : World} (N : Nat)  (h32 : SoundAt Tryd.prog w0 32 ct_veilref01_minus) (h42 : SoundAt Tryd.prog w0 42 ct_veilref01_below) (hg : GlobOK Tryd.prog w0 gs_veilref01_least) : SoundAt Tryd.prog w0 29 (ct_veilref01_least N) := by
  have hcs : ∀ x ∈ cs_veilref01_least N, SoundAt Tryd.prog w0 x.1 x.2 := by
    intro x hx
    simp only [cs_veilref01_least, List.mem_cons, List.not_mem_nil, or_false] at hx
    rcases hx with rfl | rfl
    · exact h32
    · exact h42
  have L4 : ∀ w, RowKit.Below w0.heap.size w0 w → LoopOK Tryd.prog (cxOf Tryd.f29 (cs_veilref01_least N) gs_veilref01_least 0) w 4 (.loop (loopBody Tryd.f29 4)) (loopCt veilref01_least_l4_H veilref01_least_l4_O veilref01_least_l4_T 563 (veilref01_least_l4 N) N) :=
    loop_printed hcs (ls := ls_veilref01_least N) (n := 100) (by kernel_rfl) (veilref01_least_l4_step N) N fun w hw => loopsOK_list (by
      intro x hx
      simp only [ls_veilref01_least, List.mem_cons, List.not_mem_nil, or_false] at hx
      rcases hx with rfl
      · exact .inl (by kernel_rfl)
    )
  exact fn_printed hcs hg Tryd.func29 (by kernel_rfl) (by kernel_rfl) (S := 0) (fun w hw => loopsOK_list (by
    intro x hx
    simp only [ls_veilref01_least, List.mem_cons, List.not_mem_nil, or_false] at hx
    rcases hx with rfl
    · exact .inr ⟨_, by kernel_rfl, L4 w hw⟩
  )) (fun _ => rfl) (r_veilref01_least N)
theorem k_veilref01_least {w0 : World} (N : Nat)  (hg_veilref01_least : GlobOK Tryd.prog w0 gs_veilref01_least) : SoundAt Tryd.prog w0 29 (ct_veilref01_least N) :=
  s_veilref01_least N (k_veilref01_minus) (k_veilref01_below) hg_veilref01_least

def ct_veilref01_Of (N : Nat) : Ct := fct (.one (.ints .u64 5)) (.ints .i64 10) fun x => veilref01_Of N x
def cs_veilref01_Of (N : Nat) : List (FuncId × Ct) := [(29, (ct_veilref01_least N))]
def gs_veilref01_Of : List Gv := []
def veilref01_Of_l2_H : Fm ((Unit × Unit × Unit × Int × Int)) ((List Int × Unit × List Int)) := ⟨(.cons 1 (.lit (.ptr 0 [] 29)) (.cons 2 (.lit (.ptr 1 [] 26)) (.cons 3 (.lit (.ptr 2 [] 51)) (.cons 4 (.int .i64) (.one 5 (.int .i64)))))), (.cons 0 (.ints .u64 5) (.cons 1 (.lit (.ints .i64 10 [0, 0, 0, 0, 0, 0, 0, 0, 0, 0])) (.one 2 (.ints .i64 20))))⟩
def veilref01_Of_l2_O : Fm ((Unit × Unit × Unit × Int)) ((List Int × Unit × List Int)) := ⟨(.cons 1 (.lit (.ptr 0 [] 29)) (.cons 2 (.lit (.ptr 1 [] 26)) (.cons 3 (.lit (.ptr 2 [] 51)) (.one 4 (.int .i64))))), (.cons 0 (.ints .u64 5) (.cons 1 (.lit (.ints .i64 10 [0, 0, 0, 0, 0, 0, 0, 0, 0, 0])) (.one 2 (.ints .i64 20))))⟩
def veilref01_Of_l2_T : Fm (Unit) (Unit) := ⟨.nil, .nil⟩
def veilref01_Of_l0_H : Fm ((Unit × Unit × Unit × Int)) ((List Int × Unit × List Int)) := ⟨(.cons 1 (.lit (.ptr 0 [] 29)) (.cons 2 (.lit (.ptr 1 [] 26)) (.cons 3 (.lit (.ptr 2 [] 51)) (.one 4 (.int .i64))))), (.cons 0 (.ints .u64 5) (.cons 1 (.lit (.ints .i64 10 [0, 0, 0, 0, 0, 0, 0, 0, 0, 0])) (.one 2 (.ints .i64 20))))⟩
def veilref01_Of_l0_O : Fm ((Unit × Unit)) ((Unit × List Int)) := ⟨(.cons 2 (.lit (.ptr 1 [] 26)) (.one 3 (.lit (.ptr 2 [] 51)))), (.cons 1 (.lit (.ints .i64 10 [0, 0, 0, 0, 0, 0, 0, 0, 0, 0])) (.one 2 (.ints .i64 20)))⟩
def veilref01_Of_l0_T : Fm (Unit) (Unit) := ⟨.nil, .nil⟩
noncomputable def ls_veilref01_Of (N : Nat) : List (Nat × Lf) := [(2, loopCt veilref01_Of_l2_H veilref01_Of_l2_O veilref01_Of_l2_T 7 (veilref01_Of_l2 N) N), (0, loopCt veilref01_Of_l0_H veilref01_Of_l0_O veilref01_Of_l0_T 4 (veilref01_Of_l0 N) N)]
theorem veilref01_Of_l2_step (N : Nat) : ∀ v, exec Tryd.prog (cxOf Tryd.f26 (cs_veilref01_Of N) gs_veilref01_Of 0) (fun i => lkL i (ls_veilref01_Of N)) 100 none (loopBody Tryd.f26 2) (veilref01_Of_l2_H.st 7 v) (rdEnd veilref01_Of_l2_H veilref01_Of_l2_O veilref01_Of_l2_T 7 2) = veilref01_Of_l2 N v := by
  intro v; kernel_rfl
theorem veilref01_Of_l0_step (N : Nat) : ∀ v, exec Tryd.prog (cxOf Tryd.f26 (cs_veilref01_Of N) gs_veilref01_Of 0) (fun i => lkL i (ls_veilref01_Of N)) 100 none (loopBody Tryd.f26 0) (veilref01_Of_l0_H.st 4 v) (rdEnd veilref01_Of_l0_H veilref01_Of_l0_O veilref01_Of_l0_T 4 0) = veilref01_Of_l0 N v := by
  intro v; kernel_rfl
theorem r_veilref01_Of (N : Nat) : ∀ x, run Tryd.prog (fun g => lkG g (cs_veilref01_Of N)) (glAt gs_veilref01_Of 0) (gs_veilref01_Of.length + 0) (memAt gs_veilref01_Of 0 ++ (unc gs_veilref01_Of.length (Ag.mk ((.one (.ints .u64 5))) x)).2) (fun i => lkL i (ls_veilref01_Of N)) 100 Tryd.f26 (unc gs_veilref01_Of.length (Ag.mk ((.one (.ints .u64 5))) x)).1 none (Pt.get ((.ints .i64 10))) = veilref01_Of N x := by
  intro x; kernel_rfl
theorem s_veilref01_Of {w0 : World} (N : Nat)  (h29 : SoundAt Tryd.prog w0 29 (ct_veilref01_least N)) : SoundAt Tryd.prog w0 26 (ct_veilref01_Of N) := by
  have hcs : ∀ x ∈ cs_veilref01_Of N, SoundAt Tryd.prog w0 x.1 x.2 := by
    intro x hx
    simp only [cs_veilref01_Of, List.mem_cons, List.not_mem_nil, or_false] at hx
    rcases hx with rfl
    · exact h29
  have L2 : ∀ w, RowKit.Below w0.heap.size w0 w → LoopOK Tryd.prog (cxOf Tryd.f26 (cs_veilref01_Of N) gs_veilref01_Of 0) w 2 (.loop (loopBody Tryd.f26 2)) (loopCt veilref01_Of_l2_H veilref01_Of_l2_O veilref01_Of_l2_T 7 (veilref01_Of_l2 N) N) :=
    loop_printed hcs (ls := ls_veilref01_Of N) (n := 100) (by kernel_rfl) (veilref01_Of_l2_step N) N fun w hw => loopsOK_list (by
      intro x hx
      simp only [ls_veilref01_Of, List.mem_cons, List.not_mem_nil, or_false] at hx
      rcases hx with rfl | rfl
      · exact .inl (by kernel_rfl)
      · exact .inl (by kernel_rfl)
    )
  have L0 : ∀ w, RowKit.Below w0.heap.size w0 w → LoopOK Tryd.prog (cxOf Tryd.f26 (cs_veilref01_Of N) gs_veilref01_Of 0) w 0 (.loop (loopBody Tryd.f26 0)) (loopCt veilref01_Of_l0_H veilref01_Of_l0_O veilref01_Of_l0_T 4 (veilref01_Of_l0 N) N) :=
    loop_printed hcs (ls := ls_veilref01_Of N) (n := 100) (by kernel_rfl) (veilref01_Of_l0_step N) N fun w hw => loopsOK_list (by
      intro x hx
      simp only [ls_veilref01_Of, List.mem_cons, List.not_mem_nil, or_false] at hx
      rcases hx with rfl | rfl
      · exact .inr ⟨_, by kernel_rfl, L2 w hw⟩
      · exact .inl (by kernel_rfl)
    )
  exact fn_printed hcs (glob_nil _ _) Tryd.func26 (by kernel_rfl) (by kernel_rfl) (S := 0) (fun w hw => loopsOK_list (by
    intro x hx
    simp only [ls_veilref01_Of, List.mem_cons, List.not_mem_nil, or_false] at hx
    rcases hx with rfl | rfl
    · exact .inr ⟨_, by kernel_rfl, L2 w hw⟩
    · exact .inr ⟨_, by kernel_rfl, L0 w hw⟩
  )) (fun _ => rfl) (r_veilref01_Of N)
theorem k_veilref01_Of {w0 : World} (N : Nat)  (hg_veilref01_least : GlobOK Tryd.prog w0 gs_veilref01_least) : SoundAt Tryd.prog w0 26 (ct_veilref01_Of N) :=
  s_veilref01_Of N (k_veilref01_least N hg_veilref01_least)

def ct_veilref01_F_Limbs (N : Nat) : Ct := fct (.one (.ints .i64 10)) (.ints .u64 5) fun x => veilref01_F_Limbs N x
def cs_veilref01_F_Limbs (N : Nat) : List (FuncId × Ct) := []
def gs_veilref01_F_Limbs : List Gv := []
def veilref01_F_Limbs_l0_H : Fm ((Unit × Unit × Unit × Int)) ((List Int × Unit × List Int)) := ⟨(.cons 1 (.lit (.ptr 0 [] 26)) (.cons 2 (.lit (.ptr 1 [] 29)) (.cons 3 (.lit (.ptr 2 [] 29)) (.one 4 (.int .i64))))), (.cons 0 (.ints .i64 10) (.cons 1 (.lit (.ints .u64 5 [0, 0, 0, 0, 0])) (.one 2 (.ints .u64 5))))⟩
def veilref01_F_Limbs_l0_O : Fm ((Unit × Unit)) ((Unit × List Int)) := ⟨(.cons 2 (.lit (.ptr 1 [] 29)) (.one 3 (.lit (.ptr 2 [] 29)))), (.cons 1 (.lit (.ints .u64 5 [0, 0, 0, 0, 0])) (.one 2 (.ints .u64 5)))⟩
def veilref01_F_Limbs_l0_T : Fm (Unit) (Unit) := ⟨.nil, .nil⟩
noncomputable def ls_veilref01_F_Limbs (N : Nat) : List (Nat × Lf) := [(0, loopCt veilref01_F_Limbs_l0_H veilref01_F_Limbs_l0_O veilref01_F_Limbs_l0_T 4 (veilref01_F_Limbs_l0 N) N)]
theorem veilref01_F_Limbs_l0_step (N : Nat) : ∀ v, exec Tryd.prog (cxOf Tryd.f40 (cs_veilref01_F_Limbs N) gs_veilref01_F_Limbs 0) (fun i => lkL i (ls_veilref01_F_Limbs N)) 100 none (loopBody Tryd.f40 0) (veilref01_F_Limbs_l0_H.st 4 v) (rdEnd veilref01_F_Limbs_l0_H veilref01_F_Limbs_l0_O veilref01_F_Limbs_l0_T 4 0) = veilref01_F_Limbs_l0 N v := by
  intro v; kernel_rfl
theorem r_veilref01_F_Limbs (N : Nat) : ∀ x, run Tryd.prog (fun g => lkG g (cs_veilref01_F_Limbs N)) (glAt gs_veilref01_F_Limbs 0) (gs_veilref01_F_Limbs.length + 0) (memAt gs_veilref01_F_Limbs 0 ++ (unc gs_veilref01_F_Limbs.length (Ag.mk ((.one (.ints .i64 10))) x)).2) (fun i => lkL i (ls_veilref01_F_Limbs N)) 100 Tryd.f40 (unc gs_veilref01_F_Limbs.length (Ag.mk ((.one (.ints .i64 10))) x)).1 none (Pt.get ((.ints .u64 5))) = veilref01_F_Limbs N x := by
  intro x; kernel_rfl
theorem s_veilref01_F_Limbs {w0 : World} (N : Nat)  : SoundAt Tryd.prog w0 40 (ct_veilref01_F_Limbs N) := by
  have hcs : ∀ x ∈ cs_veilref01_F_Limbs N, SoundAt Tryd.prog w0 x.1 x.2 := by
    intro x hx
    simp [cs_veilref01_F_Limbs] at hx
  have L0 : ∀ w, RowKit.Below w0.heap.size w0 w → LoopOK Tryd.prog (cxOf Tryd.f40 (cs_veilref01_F_Limbs N) gs_veilref01_F_Limbs 0) w 0 (.loop (loopBody Tryd.f40 0)) (loopCt veilref01_F_Limbs_l0_H veilref01_F_Limbs_l0_O veilref01_F_Limbs_l0_T 4 (veilref01_F_Limbs_l0 N) N) :=
    loop_printed hcs (ls := ls_veilref01_F_Limbs N) (n := 100) (by kernel_rfl) (veilref01_F_Limbs_l0_step N) N fun w hw => loopsOK_list (by
      intro x hx
      simp only [ls_veilref01_F_Limbs, List.mem_cons, List.not_mem_nil, or_false] at hx
      rcases hx with rfl
      · exact .inl (by kernel_rfl)
    )
  exact fn_printed hcs (glob_nil _ _) Tryd.func40 (by kernel_rfl) (by kernel_rfl) (S := 0) (fun w hw => loopsOK_list (by
    intro x hx
    simp only [ls_veilref01_F_Limbs, List.mem_cons, List.not_mem_nil, or_false] at hx
    rcases hx with rfl
    · exact .inr ⟨_, by kernel_rfl, L0 w hw⟩
  )) (fun _ => rfl) (r_veilref01_F_Limbs N)
theorem k_veilref01_F_Limbs {w0 : World} (N : Nat)  : SoundAt Tryd.prog w0 40 (ct_veilref01_F_Limbs N) :=
  s_veilref01_F_Limbs N

def ct_veilref01_F_Add (N : Nat) : Ct := fct (.cons (.ints .i64 10) (.one (.ints .i64 10))) (.ints .i64 10) fun x => veilref01_F_Add N x.1 x.2
def cs_veilref01_F_Add (N : Nat) : List (FuncId × Ct) := [(29, (ct_veilref01_least N))]
def gs_veilref01_F_Add : List Gv := []
noncomputable def ls_veilref01_F_Add (N : Nat) : List (Nat × Lf) := []
theorem r_veilref01_F_Add (N : Nat) : ∀ x, run Tryd.prog (fun g => lkG g (cs_veilref01_F_Add N)) (glAt gs_veilref01_F_Add 0) (gs_veilref01_F_Add.length + 0) (memAt gs_veilref01_F_Add 0 ++ (unc gs_veilref01_F_Add.length (Ag.mk ((.cons (.ints .i64 10) (.one (.ints .i64 10)))) x)).2) (fun i => lkL i (ls_veilref01_F_Add N)) 100 Tryd.f7 (unc gs_veilref01_F_Add.length (Ag.mk ((.cons (.ints .i64 10) (.one (.ints .i64 10)))) x)).1 none (Pt.get ((.ints .i64 10))) = veilref01_F_Add N x.1 x.2 := by
  intro x; kernel_rfl
theorem s_veilref01_F_Add {w0 : World} (N : Nat)  (h29 : SoundAt Tryd.prog w0 29 (ct_veilref01_least N)) : SoundAt Tryd.prog w0 7 (ct_veilref01_F_Add N) := by
  have hcs : ∀ x ∈ cs_veilref01_F_Add N, SoundAt Tryd.prog w0 x.1 x.2 := by
    intro x hx
    simp only [cs_veilref01_F_Add, List.mem_cons, List.not_mem_nil, or_false] at hx
    rcases hx with rfl
    · exact h29
  exact fn_printed hcs (glob_nil _ _) Tryd.func7 (by kernel_rfl) (by kernel_rfl) (S := 0) (fun w _ => loopsOK_nil _) (fun _ => rfl) (r_veilref01_F_Add N)
theorem k_veilref01_F_Add {w0 : World} (N : Nat)  (hg_veilref01_least : GlobOK Tryd.prog w0 gs_veilref01_least) : SoundAt Tryd.prog w0 7 (ct_veilref01_F_Add N) :=
  s_veilref01_F_Add N (k_veilref01_least N hg_veilref01_least)

def ct_veilref01_F_Neg : Ct := tct (.one (.ints .i64 10)) (.ints .i64 10) fun x => veilref01_F_Neg x
def cs_veilref01_F_Neg : List (FuncId × Ct) := [(32, ct_veilref01_minus)]
def gs_veilref01_F_Neg : List Gv := [⟨0, 26, (.ints .i64 10 [0, 0, 0, 0, 0, 0, 0, 0, 0, 0])⟩, ⟨1, 26, (.ints .i64 10 [67108845, 67108863, 67108863, 67108863, 67108863, 67108863, 67108863, 67108863, 67108863, 2097151])⟩]
noncomputable def ls_veilref01_F_Neg : List (Nat × Lf) := []
theorem r_veilref01_F_Neg : ∀ x, run Tryd.prog (fun g => lkG g (cs_veilref01_F_Neg)) (glAt gs_veilref01_F_Neg 0) (gs_veilref01_F_Neg.length + 0) (memAt gs_veilref01_F_Neg 0 ++ (unc gs_veilref01_F_Neg.length (Ag.mk ((.one (.ints .i64 10))) x)).2) (fun i => lkL i (ls_veilref01_F_Neg)) 100 Tryd.f14 (unc gs_veilref01_F_Neg.length (Ag.mk ((.one (.ints .i64 10))) x)).1 none (Pt.get ((.ints .i64 10))) = veilref01_F_Neg_o x := by
  intro x; kernel_rfl
theorem s_veilref01_F_Neg {w0 : World}  (h32 : SoundAt Tryd.prog w0 32 ct_veilref01_minus) (hg : GlobOK Tryd.prog w0 gs_veilref01_F_Neg) : SoundAt Tryd.prog w0 14 ct_veilref01_F_Neg := by
  have hcs : ∀ x ∈ cs_veilref01_F_Neg, SoundAt Tryd.prog w0 x.1 x.2 := by
    intro x hx
    simp only [cs_veilref01_F_Neg, List.mem_cons, List.not_mem_nil, or_false] at hx
    rcases hx with rfl
    · exact h32
  exact sound_tct (fn_printed hcs hg Tryd.func14 (by kernel_rfl) (by kernel_rfl) (S := 0) (fun w _ => loopsOK_nil _) (fun _ => rfl) (r_veilref01_F_Neg)) fun _ _ => veilref01_F_Neg_tot _
theorem k_veilref01_F_Neg {w0 : World}  (hg_veilref01_F_Neg : GlobOK Tryd.prog w0 gs_veilref01_F_Neg) : SoundAt Tryd.prog w0 14 ct_veilref01_F_Neg :=
  s_veilref01_F_Neg (k_veilref01_minus) hg_veilref01_F_Neg

def ct_veilref01_F_Sub (N : Nat) : Ct := fct (.cons (.ints .i64 10) (.one (.ints .i64 10))) (.ints .i64 10) fun x => veilref01_F_Sub N x.1 x.2
def cs_veilref01_F_Sub (N : Nat) : List (FuncId × Ct) := [(7, (ct_veilref01_F_Add N)), (14, ct_veilref01_F_Neg)]
def gs_veilref01_F_Sub : List Gv := []
noncomputable def ls_veilref01_F_Sub (N : Nat) : List (Nat × Lf) := []
theorem r_veilref01_F_Sub (N : Nat) : ∀ x, run Tryd.prog (fun g => lkG g (cs_veilref01_F_Sub N)) (glAt gs_veilref01_F_Sub 0) (gs_veilref01_F_Sub.length + 0) (memAt gs_veilref01_F_Sub 0 ++ (unc gs_veilref01_F_Sub.length (Ag.mk ((.cons (.ints .i64 10) (.one (.ints .i64 10)))) x)).2) (fun i => lkL i (ls_veilref01_F_Sub N)) 100 Tryd.f9 (unc gs_veilref01_F_Sub.length (Ag.mk ((.cons (.ints .i64 10) (.one (.ints .i64 10)))) x)).1 none (Pt.get ((.ints .i64 10))) = veilref01_F_Sub N x.1 x.2 := by
  intro x; kernel_rfl
theorem s_veilref01_F_Sub {w0 : World} (N : Nat)  (h7 : SoundAt Tryd.prog w0 7 (ct_veilref01_F_Add N)) (h14 : SoundAt Tryd.prog w0 14 ct_veilref01_F_Neg) : SoundAt Tryd.prog w0 9 (ct_veilref01_F_Sub N) := by
  have hcs : ∀ x ∈ cs_veilref01_F_Sub N, SoundAt Tryd.prog w0 x.1 x.2 := by
    intro x hx
    simp only [cs_veilref01_F_Sub, List.mem_cons, List.not_mem_nil, or_false] at hx
    rcases hx with rfl | rfl
    · exact h7
    · exact h14
  exact fn_printed hcs (glob_nil _ _) Tryd.func9 (by kernel_rfl) (by kernel_rfl) (S := 0) (fun w _ => loopsOK_nil _) (fun _ => rfl) (r_veilref01_F_Sub N)
theorem k_veilref01_F_Sub {w0 : World} (N : Nat)  (hg_veilref01_least : GlobOK Tryd.prog w0 gs_veilref01_least) (hg_veilref01_F_Neg : GlobOK Tryd.prog w0 gs_veilref01_F_Neg) : SoundAt Tryd.prog w0 9 (ct_veilref01_F_Sub N) :=
  s_veilref01_F_Sub N (k_veilref01_F_Add N hg_veilref01_least) (k_veilref01_F_Neg hg_veilref01_F_Neg)

def ct_veilref01_F_Mul (N : Nat) : Ct := fct (.cons (.ints .i64 10) (.one (.ints .i64 10))) (.ints .i64 10) fun x => veilref01_F_Mul N x.1 x.2
def cs_veilref01_F_Mul (N : Nat) : List (FuncId × Ct) := [(29, (ct_veilref01_least N))]
def gs_veilref01_F_Mul : List Gv := []
noncomputable def ls_veilref01_F_Mul (N : Nat) : List (Nat × Lf) := []
theorem r_veilref01_F_Mul (N : Nat) : ∀ x, run Tryd.prog (fun g => lkG g (cs_veilref01_F_Mul N)) (glAt gs_veilref01_F_Mul 0) (gs_veilref01_F_Mul.length + 0) (memAt gs_veilref01_F_Mul 0 ++ (unc gs_veilref01_F_Mul.length (Ag.mk ((.cons (.ints .i64 10) (.one (.ints .i64 10)))) x)).2) (fun i => lkL i (ls_veilref01_F_Mul N)) 100 Tryd.f11 (unc gs_veilref01_F_Mul.length (Ag.mk ((.cons (.ints .i64 10) (.one (.ints .i64 10)))) x)).1 none (Pt.get ((.ints .i64 10))) = veilref01_F_Mul N x.1 x.2 := by
  intro x; kernel_rfl
theorem s_veilref01_F_Mul {w0 : World} (N : Nat)  (h29 : SoundAt Tryd.prog w0 29 (ct_veilref01_least N)) : SoundAt Tryd.prog w0 11 (ct_veilref01_F_Mul N) := by
  have hcs : ∀ x ∈ cs_veilref01_F_Mul N, SoundAt Tryd.prog w0 x.1 x.2 := by
    intro x hx
    simp only [cs_veilref01_F_Mul, List.mem_cons, List.not_mem_nil, or_false] at hx
    rcases hx with rfl
    · exact h29
  exact fn_printed hcs (glob_nil _ _) Tryd.func11 (by kernel_rfl) (by kernel_rfl) (S := 0) (fun w _ => loopsOK_nil _) (fun _ => rfl) (r_veilref01_F_Mul N)
theorem k_veilref01_F_Mul {w0 : World} (N : Nat)  (hg_veilref01_least : GlobOK Tryd.prog w0 gs_veilref01_least) : SoundAt Tryd.prog w0 11 (ct_veilref01_F_Mul N) :=
  s_veilref01_F_Mul N (k_veilref01_least N hg_veilref01_least)

def ct_veilref01_F_ones (N : Nat) : Ct := fct (.cons (.ints .i64 10) (.one (.int .i64))) (.ints .i64 10) fun x => veilref01_F_ones N x.1 x.2
def ct_veilref01_F_ones_step (rec : List Int → Int → Option (List Int)) (N : Nat) : Ct := fct (.cons (.ints .i64 10) (.one (.int .i64))) (.ints .i64 10) fun x => veilref01_F_ones_step rec N x.1 x.2
def cs_veilref01_F_ones_step (rec : List Int → Int → Option (List Int)) (N : Nat) : List (FuncId × Ct) := [(11, (ct_veilref01_F_Mul N)), (35, (fct (.cons (.ints .i64 10) (.one (.int .i64))) (.ints .i64 10) fun x => rec x.1 x.2))]
def gs_veilref01_F_ones_step : List Gv := []
def veilref01_F_ones_l0_H : Fm ((Int × Unit × Unit × Unit × Unit × Int)) ((List Int × Unit × List Int × List Int)) := ⟨(.cons 1 (.int .i64) (.cons 2 (.lit (.ptr 0 [] 26)) (.cons 4 (.lit (.ptr 1 [] 26)) (.cons 5 (.lit (.ptr 8 [] 26)) (.cons 6 (.lit (.ptr 11 [] 26)) (.one 7 (.int .i64))))))), (.cons 0 (.ints .i64 10) (.cons 1 (.lit (.ints .i64 10 [0, 0, 0, 0, 0, 0, 0, 0, 0, 0])) (.cons 8 (.ints .i64 10) (.one 11 (.ints .i64 10)))))⟩
def veilref01_F_ones_l0_O : Fm ((Int × Unit × Unit × Unit × Unit)) ((List Int × Unit × List Int × List Int)) := ⟨(.cons 1 (.int .i64) (.cons 2 (.lit (.ptr 0 [] 26)) (.cons 4 (.lit (.ptr 1 [] 26)) (.cons 5 (.lit (.ptr 8 [] 26)) (.one 6 (.lit (.ptr 11 [] 26))))))), (.cons 0 (.ints .i64 10) (.cons 1 (.lit (.ints .i64 10 [0, 0, 0, 0, 0, 0, 0, 0, 0, 0])) (.cons 8 (.ints .i64 10) (.one 11 (.ints .i64 10)))))⟩
def veilref01_F_ones_l0_T : Fm (Unit) (Unit) := ⟨.nil, .nil⟩
noncomputable def ls_veilref01_F_ones_step (rec : List Int → Int → Option (List Int)) (N : Nat) : List (Nat × Lf) := [(0, loopCt veilref01_F_ones_l0_H veilref01_F_ones_l0_O veilref01_F_ones_l0_T 14 (veilref01_F_ones_l0 N) N)]
theorem veilref01_F_ones_l0_step (rec : List Int → Int → Option (List Int)) (N : Nat) : ∀ v, exec Tryd.prog (cxOf Tryd.f35 (cs_veilref01_F_ones_step rec N) gs_veilref01_F_ones_step 0) (fun i => lkL i (ls_veilref01_F_ones_step rec N)) 100 none (loopBody Tryd.f35 0) (veilref01_F_ones_l0_H.st 14 v) (rdEnd veilref01_F_ones_l0_H veilref01_F_ones_l0_O veilref01_F_ones_l0_T 14 0) = veilref01_F_ones_l0 N v := by
  intro v; kernel_rfl
theorem r_veilref01_F_ones_step (rec : List Int → Int → Option (List Int)) (N : Nat) : ∀ x, run Tryd.prog (fun g => lkG g (cs_veilref01_F_ones_step rec N)) (glAt gs_veilref01_F_ones_step 0) (gs_veilref01_F_ones_step.length + 0) (memAt gs_veilref01_F_ones_step 0 ++ (unc gs_veilref01_F_ones_step.length (Ag.mk ((.cons (.ints .i64 10) (.one (.int .i64)))) x)).2) (fun i => lkL i (ls_veilref01_F_ones_step rec N)) 100 Tryd.f35 (unc gs_veilref01_F_ones_step.length (Ag.mk ((.cons (.ints .i64 10) (.one (.int .i64)))) x)).1 none (Pt.get ((.ints .i64 10))) = veilref01_F_ones_step rec N x.1 x.2 := by
  intro x; kernel_rfl
theorem s_veilref01_F_ones_step {w0 : World} (rec : List Int → Int → Option (List Int)) (N : Nat)  (h11 : SoundAt Tryd.prog w0 11 (ct_veilref01_F_Mul N)) (h35 : SoundAt Tryd.prog w0 35 (fct (.cons (.ints .i64 10) (.one (.int .i64))) (.ints .i64 10) fun x => rec x.1 x.2)) : SoundAt Tryd.prog w0 35 (ct_veilref01_F_ones_step rec N) := by
  have hcs : ∀ x ∈ cs_veilref01_F_ones_step rec N, SoundAt Tryd.prog w0 x.1 x.2 := by
    intro x hx
    simp only [cs_veilref01_F_ones_step, List.mem_cons, List.not_mem_nil, or_false] at hx
    rcases hx with rfl | rfl
    · exact h11
    · exact h35
  have L0 : ∀ w, RowKit.Below w0.heap.size w0 w → LoopOK Tryd.prog (cxOf Tryd.f35 (cs_veilref01_F_ones_step rec N) gs_veilref01_F_ones_step 0) w 0 (.loop (loopBody Tryd.f35 0)) (loopCt veilref01_F_ones_l0_H veilref01_F_ones_l0_O veilref01_F_ones_l0_T 14 (veilref01_F_ones_l0 N) N) :=
    loop_printed hcs (ls := ls_veilref01_F_ones_step rec N) (n := 100) (by kernel_rfl) (veilref01_F_ones_l0_step rec N) N fun w hw => loopsOK_list (by
      intro x hx
      simp only [ls_veilref01_F_ones_step, List.mem_cons, List.not_mem_nil, or_false] at hx
      rcases hx with rfl
      · exact .inl (by kernel_rfl)
    )
  exact fn_printed hcs (glob_nil _ _) Tryd.func35 (by kernel_rfl) (by kernel_rfl) (S := 0) (fun w hw => loopsOK_list (by
    intro x hx
    simp only [ls_veilref01_F_ones_step, List.mem_cons, List.not_mem_nil, or_false] at hx
    rcases hx with rfl
    · exact .inr ⟨_, by kernel_rfl, L0 w hw⟩
  )) (fun _ => rfl) (r_veilref01_F_ones_step rec N)
theorem k_veilref01_F_ones {w0 : World} (N : Nat)  (hg_veilref01_least : GlobOK Tryd.prog w0 gs_veilref01_least) : SoundAt Tryd.prog w0 35 (ct_veilref01_F_ones N) := by
  have h : ∀ m, SoundAt Tryd.prog w0 35 (fct (.cons (.ints .i64 10) (.one (.int .i64))) (.ints .i64 10) fun x => veilref01_F_ones_go N m x.1 x.2) := by
    intro m
    induction m with
    | zero => exact sound_never
    | succ m ih => exact s_veilref01_F_ones_step (veilref01_F_ones_go N m) N (k_veilref01_F_Mul N hg_veilref01_least) ih
  exact h N

def ct_veilref01_F_Invert (N : Nat) : Ct := fct (.one (.ints .i64 10)) (.ints .i64 10) fun x => veilref01_F_Invert N x
def cs_veilref01_F_Invert (N : Nat) : List (FuncId × Ct) := [(11, (ct_veilref01_F_Mul N)), (35, (ct_veilref01_F_ones N))]
def gs_veilref01_F_Invert : List Gv := []
noncomputable def ls_veilref01_F_Invert (N : Nat) : List (Nat × Lf) := []
theorem r_veilref01_F_Invert (N : Nat) : ∀ x, run Tryd.prog (fun g => lkG g (cs_veilref01_F_Invert N)) (glAt gs_veilref01_F_Invert 0) (gs_veilref01_F_Invert.length + 0) (memAt gs_veilref01_F_Invert 0 ++ (unc gs_veilref01_F_Invert.length (Ag.mk ((.one (.ints .i64 10))) x)).2) (fun i => lkL i (ls_veilref01_F_Invert N)) 100 Tryd.f16 (unc gs_veilref01_F_Invert.length (Ag.mk ((.one (.ints .i64 10))) x)).1 none (Pt.get ((.ints .i64 10))) = veilref01_F_Invert N x := by
  intro x; kernel_rfl
theorem s_veilref01_F_Invert {w0 : World} (N : Nat)  (h11 : SoundAt Tryd.prog w0 11 (ct_veilref01_F_Mul N)) (h35 : SoundAt Tryd.prog w0 35 (ct_veilref01_F_ones N)) : SoundAt Tryd.prog w0 16 (ct_veilref01_F_Invert N) := by
  have hcs : ∀ x ∈ cs_veilref01_F_Invert N, SoundAt Tryd.prog w0 x.1 x.2 := by
    intro x hx
    simp only [cs_veilref01_F_Invert, List.mem_cons, List.not_mem_nil, or_false] at hx
    rcases hx with rfl | rfl
    · exact h11
    · exact h35
  exact fn_printed hcs (glob_nil _ _) Tryd.func16 (by kernel_rfl) (by kernel_rfl) (S := 0) (fun w _ => loopsOK_nil _) (fun _ => rfl) (r_veilref01_F_Invert N)
theorem k_veilref01_F_Invert {w0 : World} (N : Nat)  (hg_veilref01_least : GlobOK Tryd.prog w0 gs_veilref01_least) : SoundAt Tryd.prog w0 16 (ct_veilref01_F_Invert N) :=
  s_veilref01_F_Invert N (k_veilref01_F_Mul N hg_veilref01_least) (k_veilref01_F_ones N hg_veilref01_least)

def ct_veilref01_F_Negative : Ct := tct (.one (.ints .i64 10)) .bool fun x => veilref01_F_Negative x
def cs_veilref01_F_Negative : List (FuncId × Ct) := []
def gs_veilref01_F_Negative : List Gv := []
noncomputable def ls_veilref01_F_Negative : List (Nat × Lf) := []
theorem r_veilref01_F_Negative : ∀ x, run Tryd.prog (fun g => lkG g (cs_veilref01_F_Negative)) (glAt gs_veilref01_F_Negative 0) (gs_veilref01_F_Negative.length + 0) (memAt gs_veilref01_F_Negative 0 ++ (unc gs_veilref01_F_Negative.length (Ag.mk ((.one (.ints .i64 10))) x)).2) (fun i => lkL i (ls_veilref01_F_Negative)) 100 Tryd.f21 (unc gs_veilref01_F_Negative.length (Ag.mk ((.one (.ints .i64 10))) x)).1 none (Pt.get (.bool)) = some (veilref01_F_Negative x) := by
  intro x; kernel_rfl
theorem s_veilref01_F_Negative {w0 : World}  : SoundAt Tryd.prog w0 21 ct_veilref01_F_Negative := by
  have hcs : ∀ x ∈ cs_veilref01_F_Negative, SoundAt Tryd.prog w0 x.1 x.2 := by
    intro x hx
    simp [cs_veilref01_F_Negative] at hx
  exact sound_tct (fn_printed hcs (glob_nil _ _) Tryd.func21 (by kernel_rfl) (by kernel_rfl) (S := 0) (fun w _ => loopsOK_nil _) (fun _ => rfl) (r_veilref01_F_Negative)) fun _ _ => rfl
theorem k_veilref01_F_Negative {w0 : World}  : SoundAt Tryd.prog w0 21 ct_veilref01_F_Negative :=
  s_veilref01_F_Negative

def ct_veilref01_F_Abs : Ct := tct (.one (.ints .i64 10)) (.ints .i64 10) fun x => veilref01_F_Abs x
def cs_veilref01_F_Abs : List (FuncId × Ct) := [(14, ct_veilref01_F_Neg)]
def gs_veilref01_F_Abs : List Gv := []
noncomputable def ls_veilref01_F_Abs : List (Nat × Lf) := []
theorem r_veilref01_F_Abs : ∀ x, run Tryd.prog (fun g => lkG g (cs_veilref01_F_Abs)) (glAt gs_veilref01_F_Abs 0) (gs_veilref01_F_Abs.length + 0) (memAt gs_veilref01_F_Abs 0 ++ (unc gs_veilref01_F_Abs.length (Ag.mk ((.one (.ints .i64 10))) x)).2) (fun i => lkL i (ls_veilref01_F_Abs)) 100 Tryd.f18 (unc gs_veilref01_F_Abs.length (Ag.mk ((.one (.ints .i64 10))) x)).1 none (Pt.get ((.ints .i64 10))) = veilref01_F_Abs_o x := by
  intro x; kernel_rfl
theorem s_veilref01_F_Abs {w0 : World}  (h14 : SoundAt Tryd.prog w0 14 ct_veilref01_F_Neg) : SoundAt Tryd.prog w0 18 ct_veilref01_F_Abs := by
  have hcs : ∀ x ∈ cs_veilref01_F_Abs, SoundAt Tryd.prog w0 x.1 x.2 := by
    intro x hx
    simp only [cs_veilref01_F_Abs, List.mem_cons, List.not_mem_nil, or_false] at hx
    rcases hx with rfl
    · exact h14
  exact sound_tct (fn_printed hcs (glob_nil _ _) Tryd.func18 (by kernel_rfl) (by kernel_rfl) (S := 0) (fun w _ => loopsOK_nil _) (fun _ => rfl) (r_veilref01_F_Abs)) fun _ _ => veilref01_F_Abs_tot _
theorem k_veilref01_F_Abs {w0 : World}  (hg_veilref01_F_Neg : GlobOK Tryd.prog w0 gs_veilref01_F_Neg) : SoundAt Tryd.prog w0 18 ct_veilref01_F_Abs :=
  s_veilref01_F_Abs (k_veilref01_F_Neg hg_veilref01_F_Neg)

def ct_veilref01_I : Ct := tct .nil (.ints .i64 10) fun x => veilref01_I
def cs_veilref01_I : List (FuncId × Ct) := []
def gs_veilref01_I : List Gv := []
noncomputable def ls_veilref01_I : List (Nat × Lf) := []
theorem r_veilref01_I : ∀ x, run Tryd.prog (fun g => lkG g (cs_veilref01_I)) (glAt gs_veilref01_I 0) (gs_veilref01_I.length + 0) (memAt gs_veilref01_I 0 ++ (unc gs_veilref01_I.length (Ag.mk (.nil) x)).2) (fun i => lkL i (ls_veilref01_I)) 100 Tryd.f38 (unc gs_veilref01_I.length (Ag.mk (.nil) x)).1 none (Pt.get ((.ints .i64 10))) = some (veilref01_I) := by
  intro x; kernel_rfl
theorem s_veilref01_I {w0 : World}  : SoundAt Tryd.prog w0 38 ct_veilref01_I := by
  have hcs : ∀ x ∈ cs_veilref01_I, SoundAt Tryd.prog w0 x.1 x.2 := by
    intro x hx
    simp [cs_veilref01_I] at hx
  exact sound_tct (fn_printed hcs (glob_nil _ _) Tryd.func38 (by kernel_rfl) (by kernel_rfl) (S := 0) (fun w _ => loopsOK_nil _) (fun _ => rfl) (r_veilref01_I)) fun _ _ => rfl
theorem k_veilref01_I {w0 : World}  : SoundAt Tryd.prog w0 38 ct_veilref01_I :=
  s_veilref01_I

def ct_veilref01_root (N : Nat) : Ct := fct (.one (.ints .i64 10)) (.tup (.cons (.ints .i64 10) (.one .bool))) fun x => veilref01_root N x
def cs_veilref01_root (N : Nat) : List (FuncId × Ct) := [(11, (ct_veilref01_F_Mul N)), (18, ct_veilref01_F_Abs), (35, (ct_veilref01_F_ones N)), (38, ct_veilref01_I)]
def gs_veilref01_root : List Gv := [⟨0, 26, (.ints .i64 10 [0, 0, 0, 0, 0, 0, 0, 0, 0, 0])⟩]
noncomputable def ls_veilref01_root (N : Nat) : List (Nat × Lf) := []
theorem r_veilref01_root (N : Nat) : ∀ x, run Tryd.prog (fun g => lkG g (cs_veilref01_root N)) (glAt gs_veilref01_root 0) (gs_veilref01_root.length + 0) (memAt gs_veilref01_root 0 ++ (unc gs_veilref01_root.length (Ag.mk ((.one (.ints .i64 10))) x)).2) (fun i => lkL i (ls_veilref01_root N)) 100 Tryd.f37 (unc gs_veilref01_root.length (Ag.mk ((.one (.ints .i64 10))) x)).1 none (Pt.get ((.tup (.cons (.ints .i64 10) (.one .bool))))) = veilref01_root N x := by
  intro x; kernel_rfl
theorem s_veilref01_root {w0 : World} (N : Nat)  (h11 : SoundAt Tryd.prog w0 11 (ct_veilref01_F_Mul N)) (h18 : SoundAt Tryd.prog w0 18 ct_veilref01_F_Abs) (h35 : SoundAt Tryd.prog w0 35 (ct_veilref01_F_ones N)) (h38 : SoundAt Tryd.prog w0 38 ct_veilref01_I) (hg : GlobOK Tryd.prog w0 gs_veilref01_root) : SoundAt Tryd.prog w0 37 (ct_veilref01_root N) := by
  have hcs : ∀ x ∈ cs_veilref01_root N, SoundAt Tryd.prog w0 x.1 x.2 := by
    intro x hx
    simp only [cs_veilref01_root, List.mem_cons, List.not_mem_nil, or_false] at hx
    rcases hx with rfl | rfl | rfl | rfl
    · exact h11
    · exact h18
    · exact h35
    · exact h38
  exact fn_printed hcs hg Tryd.func37 (by kernel_rfl) (by kernel_rfl) (S := 0) (fun w _ => loopsOK_nil _) (fun _ => rfl) (r_veilref01_root N)
theorem k_veilref01_root {w0 : World} (N : Nat)  (hg_veilref01_least : GlobOK Tryd.prog w0 gs_veilref01_least) (hg_veilref01_F_Neg : GlobOK Tryd.prog w0 gs_veilref01_F_Neg) (hg_veilref01_root : GlobOK Tryd.prog w0 gs_veilref01_root) : SoundAt Tryd.prog w0 37 (ct_veilref01_root N) :=
  s_veilref01_root N (k_veilref01_F_Mul N hg_veilref01_least) (k_veilref01_F_Abs hg_veilref01_F_Neg) (k_veilref01_F_ones N hg_veilref01_least) (k_veilref01_I) hg_veilref01_root

def ct_veilref01_SqrtRatio (N : Nat) : Ct := fct (.cons (.ints .i64 10) (.one (.ints .i64 10))) (.tup (.cons (.ints .i64 10) (.one .bool))) fun x => veilref01_SqrtRatio N x.1 x.2
def cs_veilref01_SqrtRatio (N : Nat) : List (FuncId × Ct) := [(11, (ct_veilref01_F_Mul N)), (16, (ct_veilref01_F_Invert N)), (37, (ct_veilref01_root N)), (38, ct_veilref01_I)]
def gs_veilref01_SqrtRatio : List Gv := [⟨0, 26, (.ints .i64 10 [0, 0, 0, 0, 0, 0, 0, 0, 0, 0])⟩]
noncomputable def ls_veilref01_SqrtRatio (N : Nat) : List (Nat × Lf) := []
theorem r_veilref01_SqrtRatio (N : Nat) : ∀ x, run Tryd.prog (fun g => lkG g (cs_veilref01_SqrtRatio N)) (glAt gs_veilref01_SqrtRatio 0) (gs_veilref01_SqrtRatio.length + 0) (memAt gs_veilref01_SqrtRatio 0 ++ (unc gs_veilref01_SqrtRatio.length (Ag.mk ((.cons (.ints .i64 10) (.one (.ints .i64 10)))) x)).2) (fun i => lkL i (ls_veilref01_SqrtRatio N)) 100 Tryd.f23 (unc gs_veilref01_SqrtRatio.length (Ag.mk ((.cons (.ints .i64 10) (.one (.ints .i64 10)))) x)).1 none (Pt.get ((.tup (.cons (.ints .i64 10) (.one .bool))))) = veilref01_SqrtRatio N x.1 x.2 := by
  intro x; kernel_rfl
theorem s_veilref01_SqrtRatio {w0 : World} (N : Nat)  (h11 : SoundAt Tryd.prog w0 11 (ct_veilref01_F_Mul N)) (h16 : SoundAt Tryd.prog w0 16 (ct_veilref01_F_Invert N)) (h37 : SoundAt Tryd.prog w0 37 (ct_veilref01_root N)) (h38 : SoundAt Tryd.prog w0 38 ct_veilref01_I) (hg : GlobOK Tryd.prog w0 gs_veilref01_SqrtRatio) : SoundAt Tryd.prog w0 23 (ct_veilref01_SqrtRatio N) := by
  have hcs : ∀ x ∈ cs_veilref01_SqrtRatio N, SoundAt Tryd.prog w0 x.1 x.2 := by
    intro x hx
    simp only [cs_veilref01_SqrtRatio, List.mem_cons, List.not_mem_nil, or_false] at hx
    rcases hx with rfl | rfl | rfl | rfl
    · exact h11
    · exact h16
    · exact h37
    · exact h38
  exact fn_printed hcs hg Tryd.func23 (by kernel_rfl) (by kernel_rfl) (S := 0) (fun w _ => loopsOK_nil _) (fun _ => rfl) (r_veilref01_SqrtRatio N)
theorem k_veilref01_SqrtRatio {w0 : World} (N : Nat)  (hg_veilref01_least : GlobOK Tryd.prog w0 gs_veilref01_least) (hg_veilref01_F_Neg : GlobOK Tryd.prog w0 gs_veilref01_F_Neg) (hg_veilref01_root : GlobOK Tryd.prog w0 gs_veilref01_root) (hg_veilref01_SqrtRatio : GlobOK Tryd.prog w0 gs_veilref01_SqrtRatio) : SoundAt Tryd.prog w0 23 (ct_veilref01_SqrtRatio N) :=
  s_veilref01_SqrtRatio N (k_veilref01_F_Mul N hg_veilref01_least) (k_veilref01_F_Invert N hg_veilref01_least) (k_veilref01_root N hg_veilref01_least hg_veilref01_F_Neg hg_veilref01_root) (k_veilref01_I) hg_veilref01_SqrtRatio

def ct_veillaw01_of (N : Nat) : Ct := fct (.one (.ints .u64 5)) (.ints .i64 10) fun x => veillaw01_of N x
def cs_veillaw01_of (N : Nat) : List (FuncId × Ct) := [(26, (ct_veilref01_Of N))]
def gs_veillaw01_of : List Gv := []
noncomputable def ls_veillaw01_of (N : Nat) : List (Nat × Lf) := []
theorem r_veillaw01_of (N : Nat) : ∀ x, run Tryd.prog (fun g => lkG g (cs_veillaw01_of N)) (glAt gs_veillaw01_of 0) (gs_veillaw01_of.length + 0) (memAt gs_veillaw01_of 0 ++ (unc gs_veillaw01_of.length (Ag.mk ((.one (.ints .u64 5))) x)).2) (fun i => lkL i (ls_veillaw01_of N)) 100 Tryd.f4 (unc gs_veillaw01_of.length (Ag.mk ((.one (.ints .u64 5))) x)).1 none (Pt.get ((.ints .i64 10))) = veillaw01_of N x := by
  intro x; kernel_rfl
theorem s_veillaw01_of {w0 : World} (N : Nat)  (h26 : SoundAt Tryd.prog w0 26 (ct_veilref01_Of N)) : SoundAt Tryd.prog w0 4 (ct_veillaw01_of N) := by
  have hcs : ∀ x ∈ cs_veillaw01_of N, SoundAt Tryd.prog w0 x.1 x.2 := by
    intro x hx
    simp only [cs_veillaw01_of, List.mem_cons, List.not_mem_nil, or_false] at hx
    rcases hx with rfl
    · exact h26
  exact fn_printed hcs (glob_nil _ _) Tryd.func4 (by kernel_rfl) (by kernel_rfl) (S := 0) (fun w _ => loopsOK_nil _) (fun _ => rfl) (r_veillaw01_of N)
theorem k_veillaw01_of {w0 : World} (N : Nat)  (hg_veilref01_least : GlobOK Tryd.prog w0 gs_veilref01_least) : SoundAt Tryd.prog w0 4 (ct_veillaw01_of N) :=
  s_veillaw01_of N (k_veilref01_Of N hg_veilref01_least)

def ct_veillaw01_is (N : Nat) : Ct := fct (.cons (.ints .u64 5) (.one (.ints .i64 10))) .bool fun x => veillaw01_is N x.1 x.2
def cs_veillaw01_is (N : Nat) : List (FuncId × Ct) := [(40, (ct_veilref01_F_Limbs N))]
def gs_veillaw01_is : List Gv := []
noncomputable def ls_veillaw01_is (N : Nat) : List (Nat × Lf) := []
theorem r_veillaw01_is (N : Nat) : ∀ x, run Tryd.prog (fun g => lkG g (cs_veillaw01_is N)) (glAt gs_veillaw01_is 0) (gs_veillaw01_is.length + 0) (memAt gs_veillaw01_is 0 ++ (unc gs_veillaw01_is.length (Ag.mk ((.cons (.ints .u64 5) (.one (.ints .i64 10)))) x)).2) (fun i => lkL i (ls_veillaw01_is N)) 100 Tryd.f25 (unc gs_veillaw01_is.length (Ag.mk ((.cons (.ints .u64 5) (.one (.ints .i64 10)))) x)).1 none (Pt.get (.bool)) = veillaw01_is N x.1 x.2 := by
  intro x; kernel_rfl
theorem s_veillaw01_is {w0 : World} (N : Nat)  (h40 : SoundAt Tryd.prog w0 40 (ct_veilref01_F_Limbs N)) : SoundAt Tryd.prog w0 25 (ct_veillaw01_is N) := by
  have hcs : ∀ x ∈ cs_veillaw01_is N, SoundAt Tryd.prog w0 x.1 x.2 := by
    intro x hx
    simp only [cs_veillaw01_is, List.mem_cons, List.not_mem_nil, or_false] at hx
    rcases hx with rfl
    · exact h40
  exact fn_printed hcs (glob_nil _ _) Tryd.func25 (by kernel_rfl) (by kernel_rfl) (S := 0) (fun w _ => loopsOK_nil _) (fun _ => rfl) (r_veillaw01_is N)
theorem k_veillaw01_is {w0 : World} (N : Nat)  : SoundAt Tryd.prog w0 25 (ct_veillaw01_is N) :=
  s_veillaw01_is N (k_veilref01_F_Limbs N)

def ct_veillaw01_made : Ct := fct (.cons (.tup (.cons (.vec (.ints .u64 5)) (.one (.lit (.clo 30 []))))) (.one (.int .i64))) (.ints .u64 5) fun x => veillaw01_made x.1 x.2
def cs_veillaw01_made : List (FuncId × Ct) := []
def gs_veillaw01_made : List Gv := []
noncomputable def ls_veillaw01_made : List (Nat × Lf) := []
theorem r_veillaw01_made : ∀ x, run Tryd.prog (fun g => lkG g (cs_veillaw01_made)) (glAt gs_veillaw01_made 0) (gs_veillaw01_made.length + 1) (memAt gs_veillaw01_made 0 ++ (unc gs_veillaw01_made.length (Ag.mk ((.cons (.tup (.cons (.vec (.ints .u64 5)) (.one (.lit (.clo 30 []))))) (.one (.int .i64)))) x)).2) (fun i => lkL i (ls_veillaw01_made)) 100 Tryd.f5 (unc gs_veillaw01_made.length (Ag.mk ((.cons (.tup (.cons (.vec (.ints .u64 5)) (.one (.lit (.clo 30 []))))) (.one (.int .i64)))) x)).1 none (Pt.get ((.ints .u64 5))) = veillaw01_made x.1 x.2 := by
  intro x; kernel_rfl
theorem s_veillaw01_made {w0 : World}  : SoundAt Tryd.prog w0 5 ct_veillaw01_made := by
  have hcs : ∀ x ∈ cs_veillaw01_made, SoundAt Tryd.prog w0 x.1 x.2 := by
    intro x hx
    simp [cs_veillaw01_made] at hx
  exact fn_printed hcs (glob_nil _ _) Tryd.func5 (by kernel_rfl) (by kernel_rfl) (S := 1) (fun w _ => loopsOK_nil _) (fun _ => rfl) (r_veillaw01_made)
theorem k_veillaw01_made {w0 : World}  : SoundAt Tryd.prog w0 5 ct_veillaw01_made :=
  s_veillaw01_made

def ct_veillaw01_FieldRuns (N M : Nat) : Ct := fct (.cons (.tup (.cons (.vec (.ints .u64 5)) (.one (.lit (.clo 30 []))))) (.one (.tup (.cons (.vec (.agg (.cons (.int .i64) (.cons (.int .i64) (.int .i64))))) (.one (.lit (.clo 32 []))))))) .bool fun x => veillaw01_FieldRuns N M x.1 x.2
def cs_veillaw01_FieldRuns (N M : Nat) : List (FuncId × Ct) := [(4, (ct_veillaw01_of N)), (5, ct_veillaw01_made), (6, ct_field_Elem_Add), (7, (ct_veilref01_F_Add N)), (8, ct_field_Elem_Sub), (9, (ct_veilref01_F_Sub N)), (10, ct_field_Elem_Mul), (11, (ct_veilref01_F_Mul N)), (12, ct_field_Elem_Square), (13, ct_field_Elem_Neg), (14, ct_veilref01_F_Neg), (15, (ct_field_Elem_Invert N)), (16, (ct_veilref01_F_Invert N)), (17, ct_field_Elem_Abs), (18, ct_veilref01_F_Abs), (19, ct_field_Select), (20, ct_field_Elem_Encode), (21, ct_veilref01_F_Negative), (22, (ct_field_SqrtRatio N)), (23, (ct_veilref01_SqrtRatio N)), (24, ct_field_Elem_Least), (25, (ct_veillaw01_is N))]
def gs_veillaw01_FieldRuns : List Gv := []
def veillaw01_FieldRuns_l0_H : Fm ((Nat × Nat × Unit × Nat × Nat × Int)) ((List (List Int) × List ((Int × Int × Int)) × List (List Int) × List (List Int))) := ⟨(.cons 0 (.slw 0 30) (.cons 1 (.slw 1 32) (.cons 4 (.lit (.bool false)) (.cons 5 (.gsw 7 30) (.cons 6 (.gsw 2 26) (.one 7 (.int .i64))))))), (.cons 0 (.vec (.ints .u64 5)) (.cons 1 (.vec (.agg (.cons (.int .i64) (.cons (.int .i64) (.int .i64))))) (.cons 2 (.vec (.ints .i64 10)) (.one 7 (.vec (.ints .u64 5))))))⟩
def veillaw01_FieldRuns_l0_O : Fm ((Nat × Nat × Nat)) ((List ((Int × Int × Int)) × List (List Int) × List (List Int))) := ⟨(.cons 1 (.slw 1 32) (.cons 5 (.gsw 7 30) (.one 6 (.gsw 2 26)))), (.cons 1 (.vec (.agg (.cons (.int .i64) (.cons (.int .i64) (.int .i64))))) (.cons 2 (.vec (.ints .i64 10)) (.one 7 (.vec (.ints .u64 5)))))⟩
def veillaw01_FieldRuns_l0_T : Fm (Unit) (Unit) := ⟨.nil, .nil⟩
def veillaw01_FieldRuns_l2_H : Fm ((Nat × Nat × Nat × Int)) ((List ((Int × Int × Int)) × List (List Int) × List (List Int))) := ⟨(.cons 1 (.slw 1 32) (.cons 5 (.gsw 7 30) (.cons 6 (.gsw 2 26) (.one 8 (.int .i64))))), (.cons 1 (.vec (.agg (.cons (.int .i64) (.cons (.int .i64) (.int .i64))))) (.cons 2 (.vec (.ints .i64 10)) (.one 7 (.vec (.ints .u64 5)))))⟩
def veillaw01_FieldRuns_l2_O : Fm ((Nat × Nat)) ((List (List Int) × List (List Int))) := ⟨(.cons 5 (.gsw 7 30) (.one 6 (.gsw 2 26))), (.cons 2 (.vec (.ints .i64 10)) (.one 7 (.vec (.ints .u64 5))))⟩
def veillaw01_FieldRuns_l2_T : Fm (Bool) (Unit) := ⟨(.one 4 .bool), .nil⟩
noncomputable def ls_veillaw01_FieldRuns (N M : Nat) : List (Nat × Lf) := [(0, loopCt veillaw01_FieldRuns_l0_H veillaw01_FieldRuns_l0_O veillaw01_FieldRuns_l0_T 10 (veillaw01_FieldRuns_l0 N M) M), (2, loopCt veillaw01_FieldRuns_l2_H veillaw01_FieldRuns_l2_O veillaw01_FieldRuns_l2_T 11 (veillaw01_FieldRuns_l2 N M) M)]
theorem veillaw01_FieldRuns_l0_step (N M : Nat) : ∀ v, exec Tryd.prog (cxOf Tryd.f3 (cs_veillaw01_FieldRuns N M) gs_veillaw01_FieldRuns 2) (fun i => lkL i (ls_veillaw01_FieldRuns N M)) 100 none (loopBody Tryd.f3 0) (veillaw01_FieldRuns_l0_H.st 10 v) (rdEnd veillaw01_FieldRuns_l0_H veillaw01_FieldRuns_l0_O veillaw01_FieldRuns_l0_T 10 0) = veillaw01_FieldRuns_l0 N M v := by
  intro v; kernel_rfl
theorem veillaw01_FieldRuns_l2_step (N M : Nat) : ∀ v, exec Tryd.prog (cxOf Tryd.f3 (cs_veillaw01_FieldRuns N M) gs_veillaw01_FieldRuns 2) (fun i => lkL i (ls_veillaw01_FieldRuns N M)) 100 none (loopBody Tryd.f3 2) (veillaw01_FieldRuns_l2_H.st 11 v) (rdEnd veillaw01_FieldRuns_l2_H veillaw01_FieldRuns_l2_O veillaw01_FieldRuns_l2_T 11 2) = veillaw01_FieldRuns_l2 N M v := by
  intro v; kernel_rfl
theorem r_veillaw01_FieldRuns (N M : Nat) : ∀ x, run Tryd.prog (fun g => lkG g (cs_veillaw01_FieldRuns N M)) (glAt gs_veillaw01_FieldRuns 0) (gs_veillaw01_FieldRuns.length + 2) (memAt gs_veillaw01_FieldRuns 0 ++ (unc gs_veillaw01_FieldRuns.length (Ag.mk ((.cons (.tup (.cons (.vec (.ints .u64 5)) (.one (.lit (.clo 30 []))))) (.one (.tup (.cons (.vec (.agg (.cons (.int .i64) (.cons (.int .i64) (.int .i64))))) (.one (.lit (.clo 32 [])))))))) x)).2) (fun i => lkL i (ls_veillaw01_FieldRuns N M)) 100 Tryd.f3 (unc gs_veillaw01_FieldRuns.length (Ag.mk ((.cons (.tup (.cons (.vec (.ints .u64 5)) (.one (.lit (.clo 30 []))))) (.one (.tup (.cons (.vec (.agg (.cons (.int .i64) (.cons (.int .i64) (.int .i64))))) (.one (.lit (.clo 32 [])))))))) x)).1 none (Pt.get (.bool)) = veillaw01_FieldRuns N M x.1 x.2 := by
  intro x; kernel_rfl
theorem s_veillaw01_FieldRuns {w0 : World} (N M : Nat)  (h4 : SoundAt Tryd.prog w0 4 (ct_veillaw01_of N)) (h5 : SoundAt Tryd.prog w0 5 ct_veillaw01_made) (h6 : SoundAt Tryd.prog w0 6 ct_field_Elem_Add) (h7 : SoundAt Tryd.prog w0 7 (ct_veilref01_F_Add N)) (h8 : SoundAt Tryd.prog w0 8 ct_field_Elem_Sub) (h9 : SoundAt Tryd.prog w0 9 (ct_veilref01_F_Sub N)) (h10 : SoundAt Tryd.prog w0 10 ct_field_Elem_Mul) (h11 : SoundAt Tryd.prog w0 11 (ct_veilref01_F_Mul N)) (h12 : SoundAt Tryd.prog w0 12 ct_field_Elem_Square) (h13 : SoundAt Tryd.prog w0 13 ct_field_Elem_Neg) (h14 : SoundAt Tryd.prog w0 14 ct_veilref01_F_Neg) (h15 : SoundAt Tryd.prog w0 15 (ct_field_Elem_Invert N)) (h16 : SoundAt Tryd.prog w0 16 (ct_veilref01_F_Invert N)) (h17 : SoundAt Tryd.prog w0 17 ct_field_Elem_Abs) (h18 : SoundAt Tryd.prog w0 18 ct_veilref01_F_Abs) (h19 : SoundAt Tryd.prog w0 19 ct_field_Select) (h20 : SoundAt Tryd.prog w0 20 ct_field_Elem_Encode) (h21 : SoundAt Tryd.prog w0 21 ct_veilref01_F_Negative) (h22 : SoundAt Tryd.prog w0 22 (ct_field_SqrtRatio N)) (h23 : SoundAt Tryd.prog w0 23 (ct_veilref01_SqrtRatio N)) (h24 : SoundAt Tryd.prog w0 24 ct_field_Elem_Least) (h25 : SoundAt Tryd.prog w0 25 (ct_veillaw01_is N)) : SoundAt Tryd.prog w0 3 (ct_veillaw01_FieldRuns N M) := by
  have hcs : ∀ x ∈ cs_veillaw01_FieldRuns N M, SoundAt Tryd.prog w0 x.1 x.2 := by
    intro x hx
    simp only [cs_veillaw01_FieldRuns, List.mem_cons, List.not_mem_nil, or_false] at hx
    rcases hx with rfl | rfl | rfl | rfl | rfl | rfl | rfl | rfl | rfl | rfl | rfl | rfl | rfl | rfl | rfl | rfl | rfl | rfl | rfl | rfl | rfl | rfl
    · exact h4
    · exact h5
    · exact h6
    · exact h7
    · exact h8
    · exact h9
    · exact h10
    · exact h11
    · exact h12
    · exact h13
    · exact h14
    · exact h15
    · exact h16
    · exact h17
    · exact h18
    · exact h19
    · exact h20
    · exact h21
    · exact h22
    · exact h23
    · exact h24
    · exact h25
  have L0 : ∀ w, RowKit.Below w0.heap.size w0 w → LoopOK Tryd.prog (cxOf Tryd.f3 (cs_veillaw01_FieldRuns N M) gs_veillaw01_FieldRuns 2) w 0 (.loop (loopBody Tryd.f3 0)) (loopCt veillaw01_FieldRuns_l0_H veillaw01_FieldRuns_l0_O veillaw01_FieldRuns_l0_T 10 (veillaw01_FieldRuns_l0 N M) M) :=
    loop_printed hcs (ls := ls_veillaw01_FieldRuns N M) (n := 100) (by kernel_rfl) (veillaw01_FieldRuns_l0_step N M) M fun w hw => loopsOK_list (by
      intro x hx
      simp only [ls_veillaw01_FieldRuns, List.mem_cons, List.not_mem_nil, or_false] at hx
      rcases hx with rfl | rfl
      · exact .inl (by kernel_rfl)
      · exact .inl (by kernel_rfl)
    )
  have L2 : ∀ w, RowKit.Below w0.heap.size w0 w → LoopOK Tryd.prog (cxOf Tryd.f3 (cs_veillaw01_FieldRuns N M) gs_veillaw01_FieldRuns 2) w 2 (.loop (loopBody Tryd.f3 2)) (loopCt veillaw01_FieldRuns_l2_H veillaw01_FieldRuns_l2_O veillaw01_FieldRuns_l2_T 11 (veillaw01_FieldRuns_l2 N M) M) :=
    loop_printed hcs (ls := ls_veillaw01_FieldRuns N M) (n := 100) (by kernel_rfl) (veillaw01_FieldRuns_l2_step N M) M fun w hw => loopsOK_list (by
      intro x hx
      simp only [ls_veillaw01_FieldRuns, List.mem_cons, List.not_mem_nil, or_false] at hx
      rcases hx with rfl | rfl
      · exact .inl (by kernel_rfl)
      · exact .inl (by kernel_rfl)
    )
  exact fn_printed hcs (glob_nil _ _) Tryd.func3 (by kernel_rfl) (by kernel_rfl) (S := 2) (fun w hw => loopsOK_list (by
    intro x hx
    simp only [ls_veillaw01_FieldRuns, List.mem_cons, List.not_mem_nil, or_false] at hx
    rcases hx with rfl | rfl
    · exact .inr ⟨_, by kernel_rfl, L0 w hw⟩
    · exact .inr ⟨_, by kernel_rfl, L2 w hw⟩
  )) (fun _ => rfl) (r_veillaw01_FieldRuns N M)
theorem k_veillaw01_FieldRuns {w0 : World} (N M : Nat)  (hg_veilref01_least : GlobOK Tryd.prog w0 gs_veilref01_least) (hg_veilref01_F_Neg : GlobOK Tryd.prog w0 gs_veilref01_F_Neg) (hg_field_SqrtRatio : GlobOK Tryd.prog w0 gs_field_SqrtRatio) (hg_veilref01_root : GlobOK Tryd.prog w0 gs_veilref01_root) (hg_veilref01_SqrtRatio : GlobOK Tryd.prog w0 gs_veilref01_SqrtRatio) : SoundAt Tryd.prog w0 3 (ct_veillaw01_FieldRuns N M) :=
  s_veillaw01_FieldRuns N M (k_veillaw01_of N hg_veilref01_least) (k_veillaw01_made) (k_field_Elem_Add) (k_veilref01_F_Add N hg_veilref01_least) (k_field_Elem_Sub) (k_veilref01_F_Sub N hg_veilref01_least hg_veilref01_F_Neg) (k_field_Elem_Mul) (k_veilref01_F_Mul N hg_veilref01_least) (k_field_Elem_Square) (k_field_Elem_Neg) (k_veilref01_F_Neg hg_veilref01_F_Neg) (k_field_Elem_Invert N) (k_veilref01_F_Invert N hg_veilref01_least) (k_field_Elem_Abs) (k_veilref01_F_Abs hg_veilref01_F_Neg) (k_field_Select) (k_field_Elem_Encode) (k_veilref01_F_Negative) (k_field_SqrtRatio N hg_field_SqrtRatio) (k_veilref01_SqrtRatio N hg_veilref01_least hg_veilref01_F_Neg hg_veilref01_root hg_veilref01_SqrtRatio) (k_field_Elem_Least) (k_veillaw01_is N)

end Go.Vx
