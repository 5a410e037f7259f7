import Derived.Test.YtkkkbflonbebiaaGreatDoorFp
import Derived.Test.YtkkkbflonbebiaaGreatDoorProg
set_option autoImplicit false
set_option linter.unusedVariables false
set_option linter.unusedSimpArgs false
namespace Go.Vx
open Go Go.Proofs

def ct_bits_Add64 : Ct := fct (.cons (.int .u64) (.cons (.int .u64) (.one (.int .u64)))) (.tup (.cons (.int .u64) (.one (.int .u64)))) fun x => bits_Add64 x.1 x.2.1 x.2.2

theorem k_bits_Add64 {w0 : World} : SoundAt Tryz.prog w0 138 ct_bits_Add64 :=
  sound_add64 Tryz.func138 (by kernel_rfl) (by kernel_rfl) (by kernel_rfl) (by kernel_rfl)

def ct_bytealg_Compare : Ct := tct (.cons (.tup (.cons (.lst .u8) (.one (.lit (.clo 5 []))))) (.one (.tup (.cons (.lst .u8) (.one (.lit (.clo 5 []))))))) (.int .i64) fun x => bytealg_Compare x.1 x.2

theorem k_bytealg_Compare {w0 : World} : SoundAt Tryz.prog w0 92 ct_bytealg_Compare :=
  sound_compare Tryz.func92 (by kernel_rfl) (by kernel_rfl) (by kernel_rfl) (by kernel_rfl)

def ct_field_Elem_light : Ct := tct (.one (.ints .u64 5)) (.ints .u64 5) fun x => field_Elem_light x
def cs_field_Elem_light : List (FuncId × Ct) := []
def gs_field_Elem_light : List Gv := []
noncomputable def ls_field_Elem_light : List (Nat × Lf) := []
theorem r_field_Elem_light : ∀ x, run Tryz.prog (fun g => lkG g (cs_field_Elem_light)) (glAt gs_field_Elem_light 0) (gs_field_Elem_light.length + 0) (memAt gs_field_Elem_light 0 ++ (unc gs_field_Elem_light.length (Ag.mk ((.one (.ints .u64 5))) x)).2) (fun i => lkL i (ls_field_Elem_light)) 100 Tryz.f123 (unc gs_field_Elem_light.length (Ag.mk ((.one (.ints .u64 5))) x)).1 none (Pt.get ((.ints .u64 5))) = some (field_Elem_light x) := by
  intro x; kernel_rfl
theorem s_field_Elem_light {w0 : World}  : SoundAt Tryz.prog w0 123 ct_field_Elem_light := by
  have hcs : ∀ x ∈ cs_field_Elem_light, SoundAt Tryz.prog w0 x.1 x.2 := by
    intro x hx
    simp [cs_field_Elem_light] at hx
  exact sound_tct (fn_printed hcs (glob_nil _ _) Tryz.func123 (by kernel_rfl) (by kernel_rfl) (S := 0) (fun w _ => loopsOK_nil _) (fun _ => rfl) (r_field_Elem_light)) fun _ _ => rfl
theorem k_field_Elem_light {w0 : World}  : SoundAt Tryz.prog w0 123 ct_field_Elem_light :=
  s_field_Elem_light

def ct_field_Elem_Least : Ct := tct (.one (.ints .u64 5)) (.ints .u64 5) fun x => field_Elem_Least x
def cs_field_Elem_Least : List (FuncId × Ct) := [(123, ct_field_Elem_light)]
def gs_field_Elem_Least : List Gv := []
noncomputable def ls_field_Elem_Least : List (Nat × Lf) := []
theorem r_field_Elem_Least : ∀ x, run Tryz.prog (fun g => lkG g (cs_field_Elem_Least)) (glAt gs_field_Elem_Least 0) (gs_field_Elem_Least.length + 0) (memAt gs_field_Elem_Least 0 ++ (unc gs_field_Elem_Least.length (Ag.mk ((.one (.ints .u64 5))) x)).2) (fun i => lkL i (ls_field_Elem_Least)) 100 Tryz.f79 (unc gs_field_Elem_Least.length (Ag.mk ((.one (.ints .u64 5))) x)).1 none (Pt.get ((.ints .u64 5))) = some (field_Elem_Least x) := by
  intro x; kernel_rfl
theorem s_field_Elem_Least {w0 : World}  (h123 : SoundAt Tryz.prog w0 123 ct_field_Elem_light) : SoundAt Tryz.prog w0 79 ct_field_Elem_Least := by
  have hcs : ∀ x ∈ cs_field_Elem_Least, SoundAt Tryz.prog w0 x.1 x.2 := by
    intro x hx
    simp only [cs_field_Elem_Least, List.mem_cons, List.not_mem_nil, or_false] at hx
    rcases hx with rfl
    · exact h123
  exact sound_tct (fn_printed hcs (glob_nil _ _) Tryz.func79 (by kernel_rfl) (by kernel_rfl) (S := 0) (fun w _ => loopsOK_nil _) (fun _ => rfl) (r_field_Elem_Least)) fun _ _ => rfl
theorem k_field_Elem_Least {w0 : World}  : SoundAt Tryz.prog w0 79 ct_field_Elem_Least :=
  s_field_Elem_Least (k_field_Elem_light)

def ct_field_Elem_slim : Ct := tct (.one (.ints .u64 5)) .bool fun x => field_Elem_slim x
def cs_field_Elem_slim : List (FuncId × Ct) := []
def gs_field_Elem_slim : List Gv := []
noncomputable def ls_field_Elem_slim : List (Nat × Lf) := []
theorem r_field_Elem_slim : ∀ x, run Tryz.prog (fun g => lkG g (cs_field_Elem_slim)) (glAt gs_field_Elem_slim 0) (gs_field_Elem_slim.length + 0) (memAt gs_field_Elem_slim 0 ++ (unc gs_field_Elem_slim.length (Ag.mk ((.one (.ints .u64 5))) x)).2) (fun i => lkL i (ls_field_Elem_slim)) 100 Tryz.f96 (unc gs_field_Elem_slim.length (Ag.mk ((.one (.ints .u64 5))) x)).1 none (Pt.get (.bool)) = some (field_Elem_slim x) := by
  intro x; kernel_rfl
theorem s_field_Elem_slim {w0 : World}  : SoundAt Tryz.prog w0 96 ct_field_Elem_slim := by
  have hcs : ∀ x ∈ cs_field_Elem_slim, SoundAt Tryz.prog w0 x.1 x.2 := by
    intro x hx
    simp [cs_field_Elem_slim] at hx
  exact sound_tct (fn_printed hcs (glob_nil _ _) Tryz.func96 (by kernel_rfl) (by kernel_rfl) (S := 0) (fun w _ => loopsOK_nil _) (fun _ => rfl) (r_field_Elem_slim)) fun _ _ => rfl
theorem k_field_Elem_slim {w0 : World}  : SoundAt Tryz.prog w0 96 ct_field_Elem_slim :=
  s_field_Elem_slim

def ct_field_last : Ct := tct (.cons (.int .u64) (.cons (.int .u64) (.cons (.int .u64) (.cons (.int .u64) (.one (.int .u64)))))) (.ints .u64 5) fun x => field_last x.1 x.2.1 x.2.2.1 x.2.2.2.1 x.2.2.2.2
def cs_field_last : List (FuncId × Ct) := []
def gs_field_last : List Gv := []
noncomputable def ls_field_last : List (Nat × Lf) := []
theorem r_field_last : ∀ x, run Tryz.prog (fun g => lkG g (cs_field_last)) (glAt gs_field_last 0) (gs_field_last.length + 0) (memAt gs_field_last 0 ++ (unc gs_field_last.length (Ag.mk ((.cons (.int .u64) (.cons (.int .u64) (.cons (.int .u64) (.cons (.int .u64) (.one (.int .u64))))))) x)).2) (fun i => lkL i (ls_field_last)) 100 Tryz.f136 (unc gs_field_last.length (Ag.mk ((.cons (.int .u64) (.cons (.int .u64) (.cons (.int .u64) (.cons (.int .u64) (.one (.int .u64))))))) x)).1 none (Pt.get ((.ints .u64 5))) = some (field_last x.1 x.2.1 x.2.2.1 x.2.2.2.1 x.2.2.2.2) := by
  intro x; kernel_rfl
theorem s_field_last {w0 : World}  : SoundAt Tryz.prog w0 136 ct_field_last := by
  have hcs : ∀ x ∈ cs_field_last, SoundAt Tryz.prog w0 x.1 x.2 := by
    intro x hx
    simp [cs_field_last] at hx
  exact sound_tct (fn_printed hcs (glob_nil _ _) Tryz.func136 (by kernel_rfl) (by kernel_rfl) (S := 0) (fun w _ => loopsOK_nil _) (fun _ => rfl) (r_field_last)) fun _ _ => rfl
theorem k_field_last {w0 : World}  : SoundAt Tryz.prog w0 136 ct_field_last :=
  s_field_last

def ct_field_closed : Ct := tct (.cons (.int .u64) (.cons (.int .u64) (.cons (.int .u64) (.cons (.int .u64) (.one (.int .u64)))))) (.ints .u64 5) fun x => field_closed x.1 x.2.1 x.2.2.1 x.2.2.2.1 x.2.2.2.2
def cs_field_closed : List (FuncId × Ct) := [(136, ct_field_last)]
def gs_field_closed : List Gv := []
noncomputable def ls_field_closed : List (Nat × Lf) := []
theorem r_field_closed : ∀ x, run Tryz.prog (fun g => lkG g (cs_field_closed)) (glAt gs_field_closed 0) (gs_field_closed.length + 0) (memAt gs_field_closed 0 ++ (unc gs_field_closed.length (Ag.mk ((.cons (.int .u64) (.cons (.int .u64) (.cons (.int .u64) (.cons (.int .u64) (.one (.int .u64))))))) x)).2) (fun i => lkL i (ls_field_closed)) 100 Tryz.f97 (unc gs_field_closed.length (Ag.mk ((.cons (.int .u64) (.cons (.int .u64) (.cons (.int .u64) (.cons (.int .u64) (.one (.int .u64))))))) x)).1 none (Pt.get ((.ints .u64 5))) = field_closed_o x.1 x.2.1 x.2.2.1 x.2.2.2.1 x.2.2.2.2 := by
  intro x; kernel_rfl
theorem s_field_closed {w0 : World}  (h136 : SoundAt Tryz.prog w0 136 ct_field_last) : SoundAt Tryz.prog w0 97 ct_field_closed := by
  have hcs : ∀ x ∈ cs_field_closed, SoundAt Tryz.prog w0 x.1 x.2 := by
    intro x hx
    simp only [cs_field_closed, List.mem_cons, List.not_mem_nil, or_false] at hx
    rcases hx with rfl
    · exact h136
  exact sound_tct (fn_printed hcs (glob_nil _ _) Tryz.func97 (by kernel_rfl) (by kernel_rfl) (S := 0) (fun w _ => loopsOK_nil _) (fun _ => rfl) (r_field_closed)) fun _ _ => field_closed_tot _ _ _ _ _
theorem k_field_closed {w0 : World}  : SoundAt Tryz.prog w0 97 ct_field_closed :=
  s_field_closed (k_field_last)

def ct_field_Elem_Add : Ct := tct (.cons (.ints .u64 5) (.one (.ints .u64 5))) (.ints .u64 5) fun x => field_Elem_Add x.1 x.2
def cs_field_Elem_Add : List (FuncId × Ct) := [(79, ct_field_Elem_Least), (96, ct_field_Elem_slim), (97, ct_field_closed)]
def gs_field_Elem_Add : List Gv := []
noncomputable def ls_field_Elem_Add : List (Nat × Lf) := []
theorem r_field_Elem_Add : ∀ x, run Tryz.prog (fun g => lkG g (cs_field_Elem_Add)) (glAt gs_field_Elem_Add 0) (gs_field_Elem_Add.length + 0) (memAt gs_field_Elem_Add 0 ++ (unc gs_field_Elem_Add.length (Ag.mk ((.cons (.ints .u64 5) (.one (.ints .u64 5)))) x)).2) (fun i => lkL i (ls_field_Elem_Add)) 100 Tryz.f37 (unc gs_field_Elem_Add.length (Ag.mk ((.cons (.ints .u64 5) (.one (.ints .u64 5)))) x)).1 none (Pt.get ((.ints .u64 5))) = field_Elem_Add_o x.1 x.2 := by
  intro x; kernel_rfl
theorem s_field_Elem_Add {w0 : World}  (h79 : SoundAt Tryz.prog w0 79 ct_field_Elem_Least) (h96 : SoundAt Tryz.prog w0 96 ct_field_Elem_slim) (h97 : SoundAt Tryz.prog w0 97 ct_field_closed) : SoundAt Tryz.prog w0 37 ct_field_Elem_Add := by
  have hcs : ∀ x ∈ cs_field_Elem_Add, SoundAt Tryz.prog w0 x.1 x.2 := by
    intro x hx
    simp only [cs_field_Elem_Add, List.mem_cons, List.not_mem_nil, or_false] at hx
    rcases hx with rfl | rfl | rfl
    · exact h79
    · exact h96
    · exact h97
  exact sound_tct (fn_printed hcs (glob_nil _ _) Tryz.func37 (by kernel_rfl) (by kernel_rfl) (S := 0) (fun w _ => loopsOK_nil _) (fun _ => rfl) (r_field_Elem_Add)) fun _ _ => field_Elem_Add_tot _ _
theorem k_field_Elem_Add {w0 : World}  : SoundAt Tryz.prog w0 37 ct_field_Elem_Add :=
  s_field_Elem_Add (k_field_Elem_Least) (k_field_Elem_slim) (k_field_closed)

def ct_field_Elem_Sub : Ct := tct (.cons (.ints .u64 5) (.one (.ints .u64 5))) (.ints .u64 5) fun x => field_Elem_Sub x.1 x.2
def cs_field_Elem_Sub : List (FuncId × Ct) := [(79, ct_field_Elem_Least), (96, ct_field_Elem_slim), (97, ct_field_closed)]
def gs_field_Elem_Sub : List Gv := []
noncomputable def ls_field_Elem_Sub : List (Nat × Lf) := []
theorem r_field_Elem_Sub : ∀ x, run Tryz.prog (fun g => lkG g (cs_field_Elem_Sub)) (glAt gs_field_Elem_Sub 0) (gs_field_Elem_Sub.length + 0) (memAt gs_field_Elem_Sub 0 ++ (unc gs_field_Elem_Sub.length (Ag.mk ((.cons (.ints .u64 5) (.one (.ints .u64 5)))) x)).2) (fun i => lkL i (ls_field_Elem_Sub)) 100 Tryz.f35 (unc gs_field_Elem_Sub.length (Ag.mk ((.cons (.ints .u64 5) (.one (.ints .u64 5)))) x)).1 none (Pt.get ((.ints .u64 5))) = field_Elem_Sub_o x.1 x.2 := by
  intro x; kernel_rfl
theorem s_field_Elem_Sub {w0 : World}  (h79 : SoundAt Tryz.prog w0 79 ct_field_Elem_Least) (h96 : SoundAt Tryz.prog w0 96 ct_field_Elem_slim) (h97 : SoundAt Tryz.prog w0 97 ct_field_closed) : SoundAt Tryz.prog w0 35 ct_field_Elem_Sub := by
  have hcs : ∀ x ∈ cs_field_Elem_Sub, SoundAt Tryz.prog w0 x.1 x.2 := by
    intro x hx
    simp only [cs_field_Elem_Sub, List.mem_cons, List.not_mem_nil, or_false] at hx
    rcases hx with rfl | rfl | rfl
    · exact h79
    · exact h96
    · exact h97
  exact sound_tct (fn_printed hcs (glob_nil _ _) Tryz.func35 (by kernel_rfl) (by kernel_rfl) (S := 0) (fun w _ => loopsOK_nil _) (fun _ => rfl) (r_field_Elem_Sub)) fun _ _ => field_Elem_Sub_tot _ _
theorem k_field_Elem_Sub {w0 : World}  : SoundAt Tryz.prog w0 35 ct_field_Elem_Sub :=
  s_field_Elem_Sub (k_field_Elem_Least) (k_field_Elem_slim) (k_field_closed)

def ct_field_Elem_Neg : Ct := tct (.one (.ints .u64 5)) (.ints .u64 5) fun x => field_Elem_Neg x
def cs_field_Elem_Neg : List (FuncId × Ct) := [(35, ct_field_Elem_Sub)]
def gs_field_Elem_Neg : List Gv := []
noncomputable def ls_field_Elem_Neg : List (Nat × Lf) := []
theorem r_field_Elem_Neg : ∀ x, run Tryz.prog (fun g => lkG g (cs_field_Elem_Neg)) (glAt gs_field_Elem_Neg 0) (gs_field_Elem_Neg.length + 0) (memAt gs_field_Elem_Neg 0 ++ (unc gs_field_Elem_Neg.length (Ag.mk ((.one (.ints .u64 5))) x)).2) (fun i => lkL i (ls_field_Elem_Neg)) 100 Tryz.f58 (unc gs_field_Elem_Neg.length (Ag.mk ((.one (.ints .u64 5))) x)).1 none (Pt.get ((.ints .u64 5))) = some (field_Elem_Neg x) := by
  intro x; kernel_rfl
theorem s_field_Elem_Neg {w0 : World}  (h35 : SoundAt Tryz.prog w0 35 ct_field_Elem_Sub) : SoundAt Tryz.prog w0 58 ct_field_Elem_Neg := by
  have hcs : ∀ x ∈ cs_field_Elem_Neg, SoundAt Tryz.prog w0 x.1 x.2 := by
    intro x hx
    simp only [cs_field_Elem_Neg, List.mem_cons, List.not_mem_nil, or_false] at hx
    rcases hx with rfl
    · exact h35
  exact sound_tct (fn_printed hcs (glob_nil _ _) Tryz.func58 (by kernel_rfl) (by kernel_rfl) (S := 0) (fun w _ => loopsOK_nil _) (fun _ => rfl) (r_field_Elem_Neg)) fun _ _ => rfl
theorem k_field_Elem_Neg {w0 : World}  : SoundAt Tryz.prog w0 58 ct_field_Elem_Neg :=
  s_field_Elem_Neg (k_field_Elem_Sub)

def ct_bits_Mul64 : Ct := tct (.cons (.int .u64) (.one (.int .u64))) (.tup (.cons (.int .u64) (.one (.int .u64)))) fun x => bits_Mul64 x.1 x.2
def cs_bits_Mul64 : List (FuncId × Ct) := []
def gs_bits_Mul64 : List Gv := []
noncomputable def ls_bits_Mul64 : List (Nat × Lf) := []
theorem r_bits_Mul64 : ∀ x, run Tryz.prog (fun g => lkG g (cs_bits_Mul64)) (glAt gs_bits_Mul64 0) (gs_bits_Mul64.length + 0) (memAt gs_bits_Mul64 0 ++ (unc gs_bits_Mul64.length (Ag.mk ((.cons (.int .u64) (.one (.int .u64)))) x)).2) (fun i => lkL i (ls_bits_Mul64)) 100 Tryz.f137 (unc gs_bits_Mul64.length (Ag.mk ((.cons (.int .u64) (.one (.int .u64)))) x)).1 none (Pt.get ((.tup (.cons (.int .u64) (.one (.int .u64)))))) = some (bits_Mul64 x.1 x.2) := by
  intro x; kernel_rfl
theorem s_bits_Mul64 {w0 : World}  : SoundAt Tryz.prog w0 137 ct_bits_Mul64 := by
  have hcs : ∀ x ∈ cs_bits_Mul64, SoundAt Tryz.prog w0 x.1 x.2 := by
    intro x hx
    simp [cs_bits_Mul64] at hx
  exact sound_tct (fn_printed hcs (glob_nil _ _) Tryz.func137 (by kernel_rfl) (by kernel_rfl) (S := 0) (fun w _ => loopsOK_nil _) (fun _ => rfl) (r_bits_Mul64)) fun _ _ => rfl
theorem k_bits_Mul64 {w0 : World}  : SoundAt Tryz.prog w0 137 ct_bits_Mul64 :=
  s_bits_Mul64

def ct_field_double_plus : Ct := fct (.cons (.agg (.cons (.int .u64) (.one (.int .u64)))) (.cons (.int .u64) (.one (.int .u64)))) (.agg (.cons (.int .u64) (.one (.int .u64)))) fun x => field_double_plus x.1 x.2.1 x.2.2
def cs_field_double_plus : List (FuncId × Ct) := [(137, ct_bits_Mul64), (138, ct_bits_Add64)]
def gs_field_double_plus : List Gv := []
noncomputable def ls_field_double_plus : List (Nat × Lf) := []
theorem r_field_double_plus : ∀ x, run Tryz.prog (fun g => lkG g (cs_field_double_plus)) (glAt gs_field_double_plus 0) (gs_field_double_plus.length + 0) (memAt gs_field_double_plus 0 ++ (unc gs_field_double_plus.length (Ag.mk ((.cons (.agg (.cons (.int .u64) (.one (.int .u64)))) (.cons (.int .u64) (.one (.int .u64))))) x)).2) (fun i => lkL i (ls_field_double_plus)) 100 Tryz.f98 (unc gs_field_double_plus.length (Ag.mk ((.cons (.agg (.cons (.int .u64) (.one (.int .u64)))) (.cons (.int .u64) (.one (.int .u64))))) x)).1 none (Pt.get ((.agg (.cons (.int .u64) (.one (.int .u64)))))) = field_double_plus x.1 x.2.1 x.2.2 := by
  intro x; kernel_rfl
theorem s_field_double_plus {w0 : World}  (h137 : SoundAt Tryz.prog w0 137 ct_bits_Mul64) (h138 : SoundAt Tryz.prog w0 138 ct_bits_Add64) : SoundAt Tryz.prog w0 98 ct_field_double_plus := by
  have hcs : ∀ x ∈ cs_field_double_plus, SoundAt Tryz.prog w0 x.1 x.2 := by
    intro x hx
    simp only [cs_field_double_plus, List.mem_cons, List.not_mem_nil, or_false] at hx
    rcases hx with rfl | rfl
    · exact h137
    · exact h138
  exact fn_printed hcs (glob_nil _ _) Tryz.func98 (by kernel_rfl) (by kernel_rfl) (S := 0) (fun w _ => loopsOK_nil _) (fun _ => rfl) (r_field_double_plus)
theorem k_field_double_plus {w0 : World}  : SoundAt Tryz.prog w0 98 ct_field_double_plus :=
  s_field_double_plus (k_bits_Mul64) (k_bits_Add64)

def ct_field_double_over : Ct := tct (.one (.agg (.cons (.int .u64) (.one (.int .u64))))) (.int .u64) fun x => field_double_over x
def cs_field_double_over : List (FuncId × Ct) := []
def gs_field_double_over : List Gv := []
noncomputable def ls_field_double_over : List (Nat × Lf) := []
theorem r_field_double_over : ∀ x, run Tryz.prog (fun g => lkG g (cs_field_double_over)) (glAt gs_field_double_over 0) (gs_field_double_over.length + 0) (memAt gs_field_double_over 0 ++ (unc gs_field_double_over.length (Ag.mk ((.one (.agg (.cons (.int .u64) (.one (.int .u64)))))) x)).2) (fun i => lkL i (ls_field_double_over)) 100 Tryz.f139 (unc gs_field_double_over.length (Ag.mk ((.one (.agg (.cons (.int .u64) (.one (.int .u64)))))) x)).1 none (Pt.get ((.int .u64))) = some (field_double_over x) := by
  intro x; kernel_rfl
theorem s_field_double_over {w0 : World}  : SoundAt Tryz.prog w0 139 ct_field_double_over := by
  have hcs : ∀ x ∈ cs_field_double_over, SoundAt Tryz.prog w0 x.1 x.2 := by
    intro x hx
    simp [cs_field_double_over] at hx
  exact sound_tct (fn_printed hcs (glob_nil _ _) Tryz.func139 (by kernel_rfl) (by kernel_rfl) (S := 0) (fun w _ => loopsOK_nil _) (fun _ => rfl) (r_field_double_over)) fun _ _ => rfl
theorem k_field_double_over {w0 : World}  : SoundAt Tryz.prog w0 139 ct_field_double_over :=
  s_field_double_over

def ct_field_carried : Ct := fct (.cons (.agg (.cons (.int .u64) (.one (.int .u64)))) (.cons (.agg (.cons (.int .u64) (.one (.int .u64)))) (.cons (.agg (.cons (.int .u64) (.one (.int .u64)))) (.cons (.agg (.cons (.int .u64) (.one (.int .u64)))) (.one (.agg (.cons (.int .u64) (.one (.int .u64))))))))) (.ints .u64 5) fun x => field_carried x.1 x.2.1 x.2.2.1 x.2.2.2.1 x.2.2.2.2
def cs_field_carried : List (FuncId × Ct) := [(97, ct_field_closed), (98, ct_field_double_plus), (139, ct_field_double_over)]
def gs_field_carried : List Gv := []
noncomputable def ls_field_carried : List (Nat × Lf) := []
theorem r_field_carried : ∀ x, run Tryz.prog (fun g => lkG g (cs_field_carried)) (glAt gs_field_carried 0) (gs_field_carried.length + 0) (memAt gs_field_carried 0 ++ (unc gs_field_carried.length (Ag.mk ((.cons (.agg (.cons (.int .u64) (.one (.int .u64)))) (.cons (.agg (.cons (.int .u64) (.one (.int .u64)))) (.cons (.agg (.cons (.int .u64) (.one (.int .u64)))) (.cons (.agg (.cons (.int .u64) (.one (.int .u64)))) (.one (.agg (.cons (.int .u64) (.one (.int .u64)))))))))) x)).2) (fun i => lkL i (ls_field_carried)) 100 Tryz.f99 (unc gs_field_carried.length (Ag.mk ((.cons (.agg (.cons (.int .u64) (.one (.int .u64)))) (.cons (.agg (.cons (.int .u64) (.one (.int .u64)))) (.cons (.agg (.cons (.int .u64) (.one (.int .u64)))) (.cons (.agg (.cons (.int .u64) (.one (.int .u64)))) (.one (.agg (.cons (.int .u64) (.one (.int .u64)))))))))) x)).1 none (Pt.get ((.ints .u64 5))) = field_carried x.1 x.2.1 x.2.2.1 x.2.2.2.1 x.2.2.2.2 := by
  intro x; kernel_rfl
theorem s_field_carried {w0 : World}  (h97 : SoundAt Tryz.prog w0 97 ct_field_closed) (h98 : SoundAt Tryz.prog w0 98 ct_field_double_plus) (h139 : SoundAt Tryz.prog w0 139 ct_field_double_over) : SoundAt Tryz.prog w0 99 ct_field_carried := by
  have hcs : ∀ x ∈ cs_field_carried, SoundAt Tryz.prog w0 x.1 x.2 := by
    intro x hx
    simp only [cs_field_carried, List.mem_cons, List.not_mem_nil, or_false] at hx
    rcases hx with rfl | rfl | rfl
    · exact h97
    · exact h98
    · exact h139
  exact fn_printed hcs (glob_nil _ _) Tryz.func99 (by kernel_rfl) (by kernel_rfl) (S := 0) (fun w _ => loopsOK_nil _) (fun _ => rfl) (r_field_carried)
theorem k_field_carried {w0 : World}  : SoundAt Tryz.prog w0 99 ct_field_carried :=
  s_field_carried (k_field_closed) (k_field_double_plus) (k_field_double_over)

def ct_field_Elem_Mul : Ct := fct (.cons (.ints .u64 5) (.one (.ints .u64 5))) (.ints .u64 5) fun x => field_Elem_Mul x.1 x.2
def cs_field_Elem_Mul : List (FuncId × Ct) := [(79, ct_field_Elem_Least), (96, ct_field_Elem_slim), (98, ct_field_double_plus), (99, ct_field_carried)]
def gs_field_Elem_Mul : List Gv := []
noncomputable def ls_field_Elem_Mul : List (Nat × Lf) := []
theorem r_field_Elem_Mul : ∀ x, run Tryz.prog (fun g => lkG g (cs_field_Elem_Mul)) (glAt gs_field_Elem_Mul 0) (gs_field_Elem_Mul.length + 0) (memAt gs_field_Elem_Mul 0 ++ (unc gs_field_Elem_Mul.length (Ag.mk ((.cons (.ints .u64 5) (.one (.ints .u64 5)))) x)).2) (fun i => lkL i (ls_field_Elem_Mul)) 100 Tryz.f36 (unc gs_field_Elem_Mul.length (Ag.mk ((.cons (.ints .u64 5) (.one (.ints .u64 5)))) x)).1 none (Pt.get ((.ints .u64 5))) = field_Elem_Mul x.1 x.2 := by
  intro x; kernel_rfl
theorem s_field_Elem_Mul {w0 : World}  (h79 : SoundAt Tryz.prog w0 79 ct_field_Elem_Least) (h96 : SoundAt Tryz.prog w0 96 ct_field_Elem_slim) (h98 : SoundAt Tryz.prog w0 98 ct_field_double_plus) (h99 : SoundAt Tryz.prog w0 99 ct_field_carried) : SoundAt Tryz.prog w0 36 ct_field_Elem_Mul := by
  have hcs : ∀ x ∈ cs_field_Elem_Mul, SoundAt Tryz.prog w0 x.1 x.2 := by
    intro x hx
    simp only [cs_field_Elem_Mul, List.mem_cons, List.not_mem_nil, or_false] at hx
    rcases hx with rfl | rfl | rfl | rfl
    · exact h79
    · exact h96
    · exact h98
    · exact h99
  exact fn_printed hcs (glob_nil _ _) Tryz.func36 (by kernel_rfl) (by kernel_rfl) (S := 0) (fun w _ => loopsOK_nil _) (fun _ => rfl) (r_field_Elem_Mul)
theorem k_field_Elem_Mul {w0 : World}  : SoundAt Tryz.prog w0 36 ct_field_Elem_Mul :=
  s_field_Elem_Mul (k_field_Elem_Least) (k_field_Elem_slim) (k_field_double_plus) (k_field_carried)

def ct_field_Elem_Square : Ct := fct (.one (.ints .u64 5)) (.ints .u64 5) fun x => field_Elem_Square x
def cs_field_Elem_Square : List (FuncId × Ct) := [(79, ct_field_Elem_Least), (96, ct_field_Elem_slim), (98, ct_field_double_plus), (99, ct_field_carried)]
def gs_field_Elem_Square : List Gv := []
noncomputable def ls_field_Elem_Square : List (Nat × Lf) := []
theorem r_field_Elem_Square : ∀ x, run Tryz.prog (fun g => lkG g (cs_field_Elem_Square)) (glAt gs_field_Elem_Square 0) (gs_field_Elem_Square.length + 0) (memAt gs_field_Elem_Square 0 ++ (unc gs_field_Elem_Square.length (Ag.mk ((.one (.ints .u64 5))) x)).2) (fun i => lkL i (ls_field_Elem_Square)) 100 Tryz.f53 (unc gs_field_Elem_Square.length (Ag.mk ((.one (.ints .u64 5))) x)).1 none (Pt.get ((.ints .u64 5))) = field_Elem_Square x := by
  intro x; kernel_rfl
theorem s_field_Elem_Square {w0 : World}  (h79 : SoundAt Tryz.prog w0 79 ct_field_Elem_Least) (h96 : SoundAt Tryz.prog w0 96 ct_field_Elem_slim) (h98 : SoundAt Tryz.prog w0 98 ct_field_double_plus) (h99 : SoundAt Tryz.prog w0 99 ct_field_carried) : SoundAt Tryz.prog w0 53 ct_field_Elem_Square := by
  have hcs : ∀ x ∈ cs_field_Elem_Square, SoundAt Tryz.prog w0 x.1 x.2 := by
    intro x hx
    simp only [cs_field_Elem_Square, List.mem_cons, List.not_mem_nil, or_false] at hx
    rcases hx with rfl | rfl | rfl | rfl
    · exact h79
    · exact h96
    · exact h98
    · exact h99
  exact fn_printed hcs (glob_nil _ _) Tryz.func53 (by kernel_rfl) (by kernel_rfl) (S := 0) (fun w _ => loopsOK_nil _) (fun _ => rfl) (r_field_Elem_Square)
theorem k_field_Elem_Square {w0 : World}  : SoundAt Tryz.prog w0 53 ct_field_Elem_Square :=
  s_field_Elem_Square (k_field_Elem_Least) (k_field_Elem_slim) (k_field_double_plus) (k_field_carried)

def ct_field_load : Ct := tct (.one (.ints .u8 32)) (.ints .u64 5) fun x => field_load x
def cs_field_load : List (FuncId × Ct) := []
def gs_field_load : List Gv := []
noncomputable def ls_field_load : List (Nat × Lf) := []
theorem r_field_load : ∀ x, run Tryz.prog (fun g => lkG g (cs_field_load)) (glAt gs_field_load 0) (gs_field_load.length + 0) (memAt gs_field_load 0 ++ (unc gs_field_load.length (Ag.mk ((.one (.ints .u8 32))) x)).2) (fun i => lkL i (ls_field_load)) 100 Tryz.f78 (unc gs_field_load.length (Ag.mk ((.one (.ints .u8 32))) x)).1 none (Pt.get ((.ints .u64 5))) = some (field_load x) := by
  intro x; kernel_rfl
theorem s_field_load {w0 : World}  : SoundAt Tryz.prog w0 78 ct_field_load := by
  have hcs : ∀ x ∈ cs_field_load, SoundAt Tryz.prog w0 x.1 x.2 := by
    intro x hx
    simp [cs_field_load] at hx
  exact sound_tct (fn_printed hcs (glob_nil _ _) Tryz.func78 (by kernel_rfl) (by kernel_rfl) (S := 0) (fun w _ => loopsOK_nil _) (fun _ => rfl) (r_field_load)) fun _ _ => rfl
theorem k_field_load {w0 : World}  : SoundAt Tryz.prog w0 78 ct_field_load :=
  s_field_load

def ct_field_Reduce : Ct := tct (.one (.ints .u8 32)) (.ints .u64 5) fun x => field_Reduce x
def cs_field_Reduce : List (FuncId × Ct) := [(78, ct_field_load), (79, ct_field_Elem_Least)]
def gs_field_Reduce : List Gv := []
noncomputable def ls_field_Reduce : List (Nat × Lf) := []
theorem r_field_Reduce : ∀ x, run Tryz.prog (fun g => lkG g (cs_field_Reduce)) (glAt gs_field_Reduce 0) (gs_field_Reduce.length + 0) (memAt gs_field_Reduce 0 ++ (unc gs_field_Reduce.length (Ag.mk ((.one (.ints .u8 32))) x)).2) (fun i => lkL i (ls_field_Reduce)) 100 Tryz.f19 (unc gs_field_Reduce.length (Ag.mk ((.one (.ints .u8 32))) x)).1 none (Pt.get ((.ints .u64 5))) = some (field_Reduce x) := by
  intro x; kernel_rfl
theorem s_field_Reduce {w0 : World}  (h78 : SoundAt Tryz.prog w0 78 ct_field_load) (h79 : SoundAt Tryz.prog w0 79 ct_field_Elem_Least) : SoundAt Tryz.prog w0 19 ct_field_Reduce := by
  have hcs : ∀ x ∈ cs_field_Reduce, SoundAt Tryz.prog w0 x.1 x.2 := by
    intro x hx
    simp only [cs_field_Reduce, List.mem_cons, List.not_mem_nil, or_false] at hx
    rcases hx with rfl | rfl
    · exact h78
    · exact h79
  exact sound_tct (fn_printed hcs (glob_nil _ _) Tryz.func19 (by kernel_rfl) (by kernel_rfl) (S := 0) (fun w _ => loopsOK_nil _) (fun _ => rfl) (r_field_Reduce)) fun _ _ => rfl
theorem k_field_Reduce {w0 : World}  : SoundAt Tryz.prog w0 19 ct_field_Reduce :=
  s_field_Reduce (k_field_load) (k_field_Elem_Least)

def ct_field_Elem_Encode : Ct := tct (.one (.ints .u64 5)) (.ints .u8 32) fun x => field_Elem_Encode x
def cs_field_Elem_Encode : List (FuncId × Ct) := [(79, ct_field_Elem_Least)]
def gs_field_Elem_Encode : List Gv := []
noncomputable def ls_field_Elem_Encode : List (Nat × Lf) := []
theorem r_field_Elem_Encode : ∀ x, run Tryz.prog (fun g => lkG g (cs_field_Elem_Encode)) (glAt gs_field_Elem_Encode 0) (gs_field_Elem_Encode.length + 0) (memAt gs_field_Elem_Encode 0 ++ (unc gs_field_Elem_Encode.length (Ag.mk ((.one (.ints .u64 5))) x)).2) (fun i => lkL i (ls_field_Elem_Encode)) 100 Tryz.f60 (unc gs_field_Elem_Encode.length (Ag.mk ((.one (.ints .u64 5))) x)).1 none (Pt.get ((.ints .u8 32))) = some (field_Elem_Encode x) := by
  intro x; kernel_rfl
theorem s_field_Elem_Encode {w0 : World}  (h79 : SoundAt Tryz.prog w0 79 ct_field_Elem_Least) : SoundAt Tryz.prog w0 60 ct_field_Elem_Encode := by
  have hcs : ∀ x ∈ cs_field_Elem_Encode, SoundAt Tryz.prog w0 x.1 x.2 := by
    intro x hx
    simp only [cs_field_Elem_Encode, List.mem_cons, List.not_mem_nil, or_false] at hx
    rcases hx with rfl
    · exact h79
  exact sound_tct (fn_printed hcs (glob_nil _ _) Tryz.func60 (by kernel_rfl) (by kernel_rfl) (S := 0) (fun w _ => loopsOK_nil _) (fun _ => rfl) (r_field_Elem_Encode)) fun _ _ => rfl
theorem k_field_Elem_Encode {w0 : World}  : SoundAt Tryz.prog w0 60 ct_field_Elem_Encode :=
  s_field_Elem_Encode (k_field_Elem_Least)

def ct_field_Elem_squares (N : Nat) : Ct := fct (.cons (.ints .u64 5) (.one (.int .i64))) (.ints .u64 5) fun x => field_Elem_squares N x.1 x.2
def cs_field_Elem_squares (N : Nat) : List (FuncId × Ct) := [(53, ct_field_Elem_Square)]
def gs_field_Elem_squares : List Gv := []
def field_Elem_squares_l0_H : Fm ((Unit × Unit × Int × Int)) ((List Int × Unit)) := ⟨(.cons 2 (.lit (.ptr 0 [] 26)) (.cons 4 (.lit (.ptr 1 [] 26)) (.cons 5 (.int .i64) (.one 6 (.int .i64))))), (.cons 0 (.ints .u64 5) (.one 1 (.lit (.ints .u64 5 [0, 0, 0, 0, 0]))))⟩
def field_Elem_squares_l0_O : Fm ((Unit × Unit)) ((List Int × Unit)) := ⟨(.cons 2 (.lit (.ptr 0 [] 26)) (.one 4 (.lit (.ptr 1 [] 26)))), (.cons 0 (.ints .u64 5) (.one 1 (.lit (.ints .u64 5 [0, 0, 0, 0, 0]))))⟩
def field_Elem_squares_l0_T : Fm (Unit) (Unit) := ⟨.nil, .nil⟩
noncomputable def ls_field_Elem_squares (N : Nat) : List (Nat × Lf) := [(0, loopCt field_Elem_squares_l0_H field_Elem_squares_l0_O field_Elem_squares_l0_T 4 (field_Elem_squares_l0 N) N)]
theorem field_Elem_squares_l0_step (N : Nat) : ∀ v, exec Tryz.prog (cxOf Tryz.f121 (cs_field_Elem_squares N) gs_field_Elem_squares 0) (fun i => lkL i (ls_field_Elem_squares N)) 100 none (loopBody Tryz.f121 0) (field_Elem_squares_l0_H.st 4 v) (rdEnd field_Elem_squares_l0_H field_Elem_squares_l0_O field_Elem_squares_l0_T 4 0) = field_Elem_squares_l0 N v := by
  intro v; kernel_rfl
theorem r_field_Elem_squares (N : Nat) : ∀ x, run Tryz.prog (fun g => lkG g (cs_field_Elem_squares N)) (glAt gs_field_Elem_squares 0) (gs_field_Elem_squares.length + 0) (memAt gs_field_Elem_squares 0 ++ (unc gs_field_Elem_squares.length (Ag.mk ((.cons (.ints .u64 5) (.one (.int .i64)))) x)).2) (fun i => lkL i (ls_field_Elem_squares N)) 100 Tryz.f121 (unc gs_field_Elem_squares.length (Ag.mk ((.cons (.ints .u64 5) (.one (.int .i64)))) x)).1 none (Pt.get ((.ints .u64 5))) = field_Elem_squares N x.1 x.2 := by
  intro x; kernel_rfl
theorem s_field_Elem_squares {w0 : World} (N : Nat)  (h53 : SoundAt Tryz.prog w0 53 ct_field_Elem_Square) : SoundAt Tryz.prog w0 121 (ct_field_Elem_squares N) := by
  have hcs : ∀ x ∈ cs_field_Elem_squares N, SoundAt Tryz.prog w0 x.1 x.2 := by
    intro x hx
    simp only [cs_field_Elem_squares, List.mem_cons, List.not_mem_nil, or_false] at hx
    rcases hx with rfl
    · exact h53
  have L0 : ∀ w, RowKit.Below w0.heap.size w0 w → LoopOK Tryz.prog (cxOf Tryz.f121 (cs_field_Elem_squares N) gs_field_Elem_squares 0) w 0 (.loop (loopBody Tryz.f121 0)) (loopCt field_Elem_squares_l0_H field_Elem_squares_l0_O field_Elem_squares_l0_T 4 (field_Elem_squares_l0 N) N) :=
    loop_printed hcs (ls := ls_field_Elem_squares N) (n := 100) (by kernel_rfl) (field_Elem_squares_l0_step N) N fun w hw => loopsOK_list (by
      intro x hx
      simp only [ls_field_Elem_squares, List.mem_cons, List.not_mem_nil, or_false] at hx
      rcases hx with rfl
      · exact .inl (by kernel_rfl)
    )
  exact fn_printed hcs (glob_nil _ _) Tryz.func121 (by kernel_rfl) (by kernel_rfl) (S := 0) (fun w hw => loopsOK_list (by
    intro x hx
    simp only [ls_field_Elem_squares, List.mem_cons, List.not_mem_nil, or_false] at hx
    rcases hx with rfl
    · exact .inr ⟨_, by kernel_rfl, L0 w hw⟩
  )) (fun _ => rfl) (r_field_Elem_squares N)
theorem k_field_Elem_squares {w0 : World} (N : Nat)  : SoundAt Tryz.prog w0 121 (ct_field_Elem_squares N) :=
  s_field_Elem_squares N (k_field_Elem_Square)

def ct_field_Elem_ones (N : Nat) : Ct := fct (.one (.ints .u64 5)) (.tup (.cons (.ints .u64 5) (.one (.ints .u64 5)))) fun x => field_Elem_ones N x
def cs_field_Elem_ones (N : Nat) : List (FuncId × Ct) := [(36, ct_field_Elem_Mul), (53, ct_field_Elem_Square), (121, (ct_field_Elem_squares N))]
def gs_field_Elem_ones : List Gv := []
noncomputable def ls_field_Elem_ones (N : Nat) : List (Nat × Lf) := []
theorem r_field_Elem_ones (N : Nat) : ∀ x, run Tryz.prog (fun g => lkG g (cs_field_Elem_ones N)) (glAt gs_field_Elem_ones 0) (gs_field_Elem_ones.length + 0) (memAt gs_field_Elem_ones 0 ++ (unc gs_field_Elem_ones.length (Ag.mk ((.one (.ints .u64 5))) x)).2) (fun i => lkL i (ls_field_Elem_ones N)) 100 Tryz.f120 (unc gs_field_Elem_ones.length (Ag.mk ((.one (.ints .u64 5))) x)).1 none (Pt.get ((.tup (.cons (.ints .u64 5) (.one (.ints .u64 5)))))) = field_Elem_ones N x := by
  intro x; kernel_rfl
theorem s_field_Elem_ones {w0 : World} (N : Nat)  (h36 : SoundAt Tryz.prog w0 36 ct_field_Elem_Mul) (h53 : SoundAt Tryz.prog w0 53 ct_field_Elem_Square) (h121 : SoundAt Tryz.prog w0 121 (ct_field_Elem_squares N)) : SoundAt Tryz.prog w0 120 (ct_field_Elem_ones N) := by
  have hcs : ∀ x ∈ cs_field_Elem_ones N, SoundAt Tryz.prog w0 x.1 x.2 := by
    intro x hx
    simp only [cs_field_Elem_ones, List.mem_cons, List.not_mem_nil, or_false] at hx
    rcases hx with rfl | rfl | rfl
    · exact h36
    · exact h53
    · exact h121
  exact fn_printed hcs (glob_nil _ _) Tryz.func120 (by kernel_rfl) (by kernel_rfl) (S := 0) (fun w _ => loopsOK_nil _) (fun _ => rfl) (r_field_Elem_ones N)
theorem k_field_Elem_ones {w0 : World} (N : Nat)  : SoundAt Tryz.prog w0 120 (ct_field_Elem_ones N) :=
  s_field_Elem_ones N (k_field_Elem_Mul) (k_field_Elem_Square) (k_field_Elem_squares N)

def ct_field_Elem_Invert (N : Nat) : Ct := fct (.one (.ints .u64 5)) (.ints .u64 5) fun x => field_Elem_Invert N x
def cs_field_Elem_Invert (N : Nat) : List (FuncId × Ct) := [(36, ct_field_Elem_Mul), (120, (ct_field_Elem_ones N)), (121, (ct_field_Elem_squares N))]
def gs_field_Elem_Invert : List Gv := []
noncomputable def ls_field_Elem_Invert (N : Nat) : List (Nat × Lf) := []
theorem r_field_Elem_Invert (N : Nat) : ∀ x, run Tryz.prog (fun g => lkG g (cs_field_Elem_Invert N)) (glAt gs_field_Elem_Invert 0) (gs_field_Elem_Invert.length + 0) (memAt gs_field_Elem_Invert 0 ++ (unc gs_field_Elem_Invert.length (Ag.mk ((.one (.ints .u64 5))) x)).2) (fun i => lkL i (ls_field_Elem_Invert N)) 100 Tryz.f76 (unc gs_field_Elem_Invert.length (Ag.mk ((.one (.ints .u64 5))) x)).1 none (Pt.get ((.ints .u64 5))) = field_Elem_Invert N x := by
  intro x; kernel_rfl
theorem s_field_Elem_Invert {w0 : World} (N : Nat)  (h36 : SoundAt Tryz.prog w0 36 ct_field_Elem_Mul) (h120 : SoundAt Tryz.prog w0 120 (ct_field_Elem_ones N)) (h121 : SoundAt Tryz.prog w0 121 (ct_field_Elem_squares N)) : SoundAt Tryz.prog w0 76 (ct_field_Elem_Invert N) := by
  have hcs : ∀ x ∈ cs_field_Elem_Invert N, SoundAt Tryz.prog w0 x.1 x.2 := by
    intro x hx
    simp only [cs_field_Elem_Invert, List.mem_cons, List.not_mem_nil, or_false] at hx
    rcases hx with rfl | rfl | rfl
    · exact h36
    · exact h120
    · exact h121
  exact fn_printed hcs (glob_nil _ _) Tryz.func76 (by kernel_rfl) (by kernel_rfl) (S := 0) (fun w _ => loopsOK_nil _) (fun _ => rfl) (r_field_Elem_Invert N)
theorem k_field_Elem_Invert {w0 : World} (N : Nat)  : SoundAt Tryz.prog w0 76 (ct_field_Elem_Invert N) :=
  s_field_Elem_Invert N (k_field_Elem_Mul) (k_field_Elem_ones N) (k_field_Elem_squares N)

def ct_field_Elem_root (N : Nat) : Ct := fct (.one (.ints .u64 5)) (.ints .u64 5) fun x => field_Elem_root N x
def cs_field_Elem_root (N : Nat) : List (FuncId × Ct) := [(36, ct_field_Elem_Mul), (120, (ct_field_Elem_ones N)), (121, (ct_field_Elem_squares N))]
def gs_field_Elem_root : List Gv := []
noncomputable def ls_field_Elem_root (N : Nat) : List (Nat × Lf) := []
theorem r_field_Elem_root (N : Nat) : ∀ x, run Tryz.prog (fun g => lkG g (cs_field_Elem_root N)) (glAt gs_field_Elem_root 0) (gs_field_Elem_root.length + 0) (memAt gs_field_Elem_root 0 ++ (unc gs_field_Elem_root.length (Ag.mk ((.one (.ints .u64 5))) x)).2) (fun i => lkL i (ls_field_Elem_root N)) 100 Tryz.f105 (unc gs_field_Elem_root.length (Ag.mk ((.one (.ints .u64 5))) x)).1 none (Pt.get ((.ints .u64 5))) = field_Elem_root N x := by
  intro x; kernel_rfl
theorem s_field_Elem_root {w0 : World} (N : Nat)  (h36 : SoundAt Tryz.prog w0 36 ct_field_Elem_Mul) (h120 : SoundAt Tryz.prog w0 120 (ct_field_Elem_ones N)) (h121 : SoundAt Tryz.prog w0 121 (ct_field_Elem_squares N)) : SoundAt Tryz.prog w0 105 (ct_field_Elem_root N) := by
  have hcs : ∀ x ∈ cs_field_Elem_root N, SoundAt Tryz.prog w0 x.1 x.2 := by
    intro x hx
    simp only [cs_field_Elem_root, List.mem_cons, List.not_mem_nil, or_false] at hx
    rcases hx with rfl | rfl | rfl
    · exact h36
    · exact h120
    · exact h121
  exact fn_printed hcs (glob_nil _ _) Tryz.func105 (by kernel_rfl) (by kernel_rfl) (S := 0) (fun w _ => loopsOK_nil _) (fun _ => rfl) (r_field_Elem_root N)
theorem k_field_Elem_root {w0 : World} (N : Nat)  : SoundAt Tryz.prog w0 105 (ct_field_Elem_root N) :=
  s_field_Elem_root N (k_field_Elem_Mul) (k_field_Elem_ones N) (k_field_Elem_squares N)

def ct_field_Elem_One : Ct := tct (.one (.ints .u64 5)) (.ints .u64 5) fun x => field_Elem_One x
def cs_field_Elem_One : List (FuncId × Ct) := []
def gs_field_Elem_One : List Gv := []
noncomputable def ls_field_Elem_One : List (Nat × Lf) := []
theorem r_field_Elem_One : ∀ x, run Tryz.prog (fun g => lkG g (cs_field_Elem_One)) (glAt gs_field_Elem_One 0) (gs_field_Elem_One.length + 0) (memAt gs_field_Elem_One 0 ++ (unc gs_field_Elem_One.length (Ag.mk ((.one (.ints .u64 5))) x)).2) (fun i => lkL i (ls_field_Elem_One)) 100 Tryz.f51 (unc gs_field_Elem_One.length (Ag.mk ((.one (.ints .u64 5))) x)).1 none (Pt.get ((.ints .u64 5))) = some (field_Elem_One x) := by
  intro x; kernel_rfl
theorem s_field_Elem_One {w0 : World}  : SoundAt Tryz.prog w0 51 ct_field_Elem_One := by
  have hcs : ∀ x ∈ cs_field_Elem_One, SoundAt Tryz.prog w0 x.1 x.2 := by
    intro x hx
    simp [cs_field_Elem_One] at hx
  exact sound_tct (fn_printed hcs (glob_nil _ _) Tryz.func51 (by kernel_rfl) (by kernel_rfl) (S := 0) (fun w _ => loopsOK_nil _) (fun _ => rfl) (r_field_Elem_One)) fun _ _ => rfl
theorem k_field_Elem_One {w0 : World}  : SoundAt Tryz.prog w0 51 ct_field_Elem_One :=
  s_field_Elem_One

def ct_field_Elem_Negative : Ct := tct (.one (.ints .u64 5)) .bool fun x => field_Elem_Negative x
def cs_field_Elem_Negative : List (FuncId × Ct) := [(79, ct_field_Elem_Least)]
def gs_field_Elem_Negative : List Gv := []
noncomputable def ls_field_Elem_Negative : List (Nat × Lf) := []
theorem r_field_Elem_Negative : ∀ x, run Tryz.prog (fun g => lkG g (cs_field_Elem_Negative)) (glAt gs_field_Elem_Negative 0) (gs_field_Elem_Negative.length + 0) (memAt gs_field_Elem_Negative 0 ++ (unc gs_field_Elem_Negative.length (Ag.mk ((.one (.ints .u64 5))) x)).2) (fun i => lkL i (ls_field_Elem_Negative)) 100 Tryz.f55 (unc gs_field_Elem_Negative.length (Ag.mk ((.one (.ints .u64 5))) x)).1 none (Pt.get (.bool)) = some (field_Elem_Negative x) := by
  intro x; kernel_rfl
theorem s_field_Elem_Negative {w0 : World}  (h79 : SoundAt Tryz.prog w0 79 ct_field_Elem_Least) : SoundAt Tryz.prog w0 55 ct_field_Elem_Negative := by
  have hcs : ∀ x ∈ cs_field_Elem_Negative, SoundAt Tryz.prog w0 x.1 x.2 := by
    intro x hx
    simp only [cs_field_Elem_Negative, List.mem_cons, List.not_mem_nil, or_false] at hx
    rcases hx with rfl
    · exact h79
  exact sound_tct (fn_printed hcs (glob_nil _ _) Tryz.func55 (by kernel_rfl) (by kernel_rfl) (S := 0) (fun w _ => loopsOK_nil _) (fun _ => rfl) (r_field_Elem_Negative)) fun _ _ => rfl
theorem k_field_Elem_Negative {w0 : World}  : SoundAt Tryz.prog w0 55 ct_field_Elem_Negative :=
  s_field_Elem_Negative (k_field_Elem_Least)

def ct_field_Select : Ct := tct (.cons (.int .i64) (.cons (.ints .u64 5) (.one (.ints .u64 5)))) (.ints .u64 5) fun x => field_Select x.1 x.2.1 x.2.2
def cs_field_Select : List (FuncId × Ct) := [(79, ct_field_Elem_Least)]
def gs_field_Select : List Gv := []
noncomputable def ls_field_Select : List (Nat × Lf) := []
theorem r_field_Select : ∀ x, run Tryz.prog (fun g => lkG g (cs_field_Select)) (glAt gs_field_Select 0) (gs_field_Select.length + 0) (memAt gs_field_Select 0 ++ (unc gs_field_Select.length (Ag.mk ((.cons (.int .i64) (.cons (.ints .u64 5) (.one (.ints .u64 5))))) x)).2) (fun i => lkL i (ls_field_Select)) 100 Tryz.f57 (unc gs_field_Select.length (Ag.mk ((.cons (.int .i64) (.cons (.ints .u64 5) (.one (.ints .u64 5))))) x)).1 none (Pt.get ((.ints .u64 5))) = some (field_Select x.1 x.2.1 x.2.2) := by
  intro x; kernel_rfl
theorem s_field_Select {w0 : World}  (h79 : SoundAt Tryz.prog w0 79 ct_field_Elem_Least) : SoundAt Tryz.prog w0 57 ct_field_Select := by
  have hcs : ∀ x ∈ cs_field_Select, SoundAt Tryz.prog w0 x.1 x.2 := by
    intro x hx
    simp only [cs_field_Select, List.mem_cons, List.not_mem_nil, or_false] at hx
    rcases hx with rfl
    · exact h79
  exact sound_tct (fn_printed hcs (glob_nil _ _) Tryz.func57 (by kernel_rfl) (by kernel_rfl) (S := 0) (fun w _ => loopsOK_nil _) (fun _ => rfl) (r_field_Select)) fun _ _ => rfl
theorem k_field_Select {w0 : World}  : SoundAt Tryz.prog w0 57 ct_field_Select :=
  s_field_Select (k_field_Elem_Least)

def ct_field_Elem_Abs : Ct := tct (.one (.ints .u64 5)) (.ints .u64 5) fun x => field_Elem_Abs x
def cs_field_Elem_Abs : List (FuncId × Ct) := [(57, ct_field_Select), (58, ct_field_Elem_Neg), (79, ct_field_Elem_Least)]
def gs_field_Elem_Abs : List Gv := []
noncomputable def ls_field_Elem_Abs : List (Nat × Lf) := []
theorem r_field_Elem_Abs : ∀ x, run Tryz.prog (fun g => lkG g (cs_field_Elem_Abs)) (glAt gs_field_Elem_Abs 0) (gs_field_Elem_Abs.length + 0) (memAt gs_field_Elem_Abs 0 ++ (unc gs_field_Elem_Abs.length (Ag.mk ((.one (.ints .u64 5))) x)).2) (fun i => lkL i (ls_field_Elem_Abs)) 100 Tryz.f59 (unc gs_field_Elem_Abs.length (Ag.mk ((.one (.ints .u64 5))) x)).1 none (Pt.get ((.ints .u64 5))) = some (field_Elem_Abs x) := by
  intro x; kernel_rfl
theorem s_field_Elem_Abs {w0 : World}  (h57 : SoundAt Tryz.prog w0 57 ct_field_Select) (h58 : SoundAt Tryz.prog w0 58 ct_field_Elem_Neg) (h79 : SoundAt Tryz.prog w0 79 ct_field_Elem_Least) : SoundAt Tryz.prog w0 59 ct_field_Elem_Abs := by
  have hcs : ∀ x ∈ cs_field_Elem_Abs, SoundAt Tryz.prog w0 x.1 x.2 := by
    intro x hx
    simp only [cs_field_Elem_Abs, List.mem_cons, List.not_mem_nil, or_false] at hx
    rcases hx with rfl | rfl | rfl
    · exact h57
    · exact h58
    · exact h79
  exact sound_tct (fn_printed hcs (glob_nil _ _) Tryz.func59 (by kernel_rfl) (by kernel_rfl) (S := 0) (fun w _ => loopsOK_nil _) (fun _ => rfl) (r_field_Elem_Abs)) fun _ _ => rfl
theorem k_field_Elem_Abs {w0 : World}  : SoundAt Tryz.prog w0 59 ct_field_Elem_Abs :=
  s_field_Elem_Abs (k_field_Select) (k_field_Elem_Neg) (k_field_Elem_Least)

def ct_field_Const : Ct := fct (.one (.int .i64)) (.ints .u64 5) fun x => field_Const x
def cs_field_Const : List (FuncId × Ct) := []
def gs_field_Const : List Gv := [⟨6, 143, (.rows 7 fun i => .ints .u64 5 (field_tab i))⟩]
noncomputable def ls_field_Const : List (Nat × Lf) := []
theorem r_field_Const : ∀ x, run Tryz.prog (fun g => lkG g (cs_field_Const)) (glAt gs_field_Const 0) (gs_field_Const.length + 0) (memAt gs_field_Const 0 ++ (unc gs_field_Const.length (Ag.mk ((.one (.int .i64))) x)).2) (fun i => lkL i (ls_field_Const)) 100 Tryz.f56 (unc gs_field_Const.length (Ag.mk ((.one (.int .i64))) x)).1 none (Pt.get ((.ints .u64 5))) = field_Const x := by
  intro x; kernel_rfl
theorem s_field_Const {w0 : World}  (hg : GlobOK Tryz.prog w0 gs_field_Const) : SoundAt Tryz.prog w0 56 ct_field_Const := by
  have hcs : ∀ x ∈ cs_field_Const, SoundAt Tryz.prog w0 x.1 x.2 := by
    intro x hx
    simp [cs_field_Const] at hx
  exact fn_printed hcs hg Tryz.func56 (by kernel_rfl) (by kernel_rfl) (S := 0) (fun w _ => loopsOK_nil _) (fun _ => rfl) (r_field_Const)
theorem k_field_Const {w0 : World}  (hg_field_Const : GlobOK Tryz.prog w0 gs_field_Const) : SoundAt Tryz.prog w0 56 ct_field_Const :=
  s_field_Const hg_field_Const

def ct_field_SqrtRatio (N : Nat) : Ct := fct (.cons (.ints .u64 5) (.one (.ints .u64 5))) (.tup (.cons (.ints .u64 5) (.one .bool))) fun x => field_SqrtRatio N x.1 x.2
def cs_field_SqrtRatio (N : Nat) : List (FuncId × Ct) := [(36, ct_field_Elem_Mul), (53, ct_field_Elem_Square), (58, ct_field_Elem_Neg), (59, ct_field_Elem_Abs), (79, ct_field_Elem_Least), (105, (ct_field_Elem_root N))]
def gs_field_SqrtRatio : List Gv := [⟨6, 143, (.rows 7 fun i => .ints .u64 5 (field_tab i))⟩]
noncomputable def ls_field_SqrtRatio (N : Nat) : List (Nat × Lf) := []
theorem r_field_SqrtRatio (N : Nat) : ∀ x, run Tryz.prog (fun g => lkG g (cs_field_SqrtRatio N)) (glAt gs_field_SqrtRatio 0) (gs_field_SqrtRatio.length + 0) (memAt gs_field_SqrtRatio 0 ++ (unc gs_field_SqrtRatio.length (Ag.mk ((.cons (.ints .u64 5) (.one (.ints .u64 5)))) x)).2) (fun i => lkL i (ls_field_SqrtRatio N)) 100 Tryz.f52 (unc gs_field_SqrtRatio.length (Ag.mk ((.cons (.ints .u64 5) (.one (.ints .u64 5)))) x)).1 none (Pt.get ((.tup (.cons (.ints .u64 5) (.one .bool))))) = field_SqrtRatio N x.1 x.2 := by
  intro x; kernel_rfl
theorem s_field_SqrtRatio {w0 : World} (N : Nat)  (h36 : SoundAt Tryz.prog w0 36 ct_field_Elem_Mul) (h53 : SoundAt Tryz.prog w0 53 ct_field_Elem_Square) (h58 : SoundAt Tryz.prog w0 58 ct_field_Elem_Neg) (h59 : SoundAt Tryz.prog w0 59 ct_field_Elem_Abs) (h79 : SoundAt Tryz.prog w0 79 ct_field_Elem_Least) (h105 : SoundAt Tryz.prog w0 105 (ct_field_Elem_root N)) (hg : GlobOK Tryz.prog w0 gs_field_SqrtRatio) : SoundAt Tryz.prog w0 52 (ct_field_SqrtRatio N) := by
  have hcs : ∀ x ∈ cs_field_SqrtRatio N, SoundAt Tryz.prog w0 x.1 x.2 := by
    intro x hx
    simp only [cs_field_SqrtRatio, List.mem_cons, List.not_mem_nil, or_false] at hx
    rcases hx with rfl | rfl | rfl | rfl | rfl | rfl
    · exact h36
    · exact h53
    · exact h58
    · exact h59
    · exact h79
    · exact h105
  exact fn_printed hcs hg Tryz.func52 (by kernel_rfl) (by kernel_rfl) (S := 0) (fun w _ => loopsOK_nil _) (fun _ => rfl) (r_field_SqrtRatio N)
theorem k_field_SqrtRatio {w0 : World} (N : Nat)  (hg_field_SqrtRatio : GlobOK Tryz.prog w0 gs_field_SqrtRatio) : SoundAt Tryz.prog w0 52 (ct_field_SqrtRatio N) :=
  s_field_SqrtRatio N (k_field_Elem_Mul) (k_field_Elem_Square) (k_field_Elem_Neg) (k_field_Elem_Abs) (k_field_Elem_Least) (k_field_Elem_root N) hg_field_SqrtRatio

def ct_curve_place_whole : Ct := tct (.one (.agg (.cons (.ints .u64 5) (.cons (.ints .u64 5) (.cons (.ints .u64 5) (.one (.ints .u64 5))))))) (.agg (.cons (.ints .u64 5) (.cons (.ints .u64 5) (.cons (.ints .u64 5) (.one (.ints .u64 5)))))) fun x => curve_place_whole x
def cs_curve_place_whole : List (FuncId × Ct) := []
def gs_curve_place_whole : List Gv := [⟨4, 26, (.ints .u64 5 [1, 0, 0, 0, 0])⟩]
noncomputable def ls_curve_place_whole : List (Nat × Lf) := []
theorem r_curve_place_whole : ∀ x, run Tryz.prog (fun g => lkG g (cs_curve_place_whole)) (glAt gs_curve_place_whole 0) (gs_curve_place_whole.length + 0) (memAt gs_curve_place_whole 0 ++ (unc gs_curve_place_whole.length (Ag.mk ((.one (.agg (.cons (.ints .u64 5) (.cons (.ints .u64 5) (.cons (.ints .u64 5) (.one (.ints .u64 5)))))))) x)).2) (fun i => lkL i (ls_curve_place_whole)) 100 Tryz.f34 (unc gs_curve_place_whole.length (Ag.mk ((.one (.agg (.cons (.ints .u64 5) (.cons (.ints .u64 5) (.cons (.ints .u64 5) (.one (.ints .u64 5)))))))) x)).1 none (Pt.get ((.agg (.cons (.ints .u64 5) (.cons (.ints .u64 5) (.cons (.ints .u64 5) (.one (.ints .u64 5)))))))) = curve_place_whole_o x := by
  intro x; kernel_rfl
theorem s_curve_place_whole {w0 : World}  (hg : GlobOK Tryz.prog w0 gs_curve_place_whole) : SoundAt Tryz.prog w0 34 ct_curve_place_whole := by
  have hcs : ∀ x ∈ cs_curve_place_whole, SoundAt Tryz.prog w0 x.1 x.2 := by
    intro x hx
    simp [cs_curve_place_whole] at hx
  exact sound_tct (fn_printed hcs hg Tryz.func34 (by kernel_rfl) (by kernel_rfl) (S := 0) (fun w _ => loopsOK_nil _) (fun _ => rfl) (r_curve_place_whole)) fun _ _ => curve_place_whole_tot _
theorem k_curve_place_whole {w0 : World}  (hg_curve_place_whole : GlobOK Tryz.prog w0 gs_curve_place_whole) : SoundAt Tryz.prog w0 34 ct_curve_place_whole :=
  s_curve_place_whole hg_curve_place_whole

def ct_curve_at : Ct := fct (.cons (.ints .u64 5) (.one (.ints .u64 5))) (.agg (.one (.agg (.cons (.ints .u64 5) (.cons (.ints .u64 5) (.cons (.ints .u64 5) (.one (.ints .u64 5)))))))) fun x => curve_at x.1 x.2
def cs_curve_at : List (FuncId × Ct) := [(36, ct_field_Elem_Mul)]
def gs_curve_at : List Gv := [⟨4, 26, (.ints .u64 5 [1, 0, 0, 0, 0])⟩]
noncomputable def ls_curve_at : List (Nat × Lf) := []
theorem r_curve_at : ∀ x, run Tryz.prog (fun g => lkG g (cs_curve_at)) (glAt gs_curve_at 0) (gs_curve_at.length + 0) (memAt gs_curve_at 0 ++ (unc gs_curve_at.length (Ag.mk ((.cons (.ints .u64 5) (.one (.ints .u64 5)))) x)).2) (fun i => lkL i (ls_curve_at)) 100 Tryz.f122 (unc gs_curve_at.length (Ag.mk ((.cons (.ints .u64 5) (.one (.ints .u64 5)))) x)).1 none (Pt.get ((.agg (.one (.agg (.cons (.ints .u64 5) (.cons (.ints .u64 5) (.cons (.ints .u64 5) (.one (.ints .u64 5)))))))))) = curve_at x.1 x.2 := by
  intro x; kernel_rfl
theorem s_curve_at {w0 : World}  (h36 : SoundAt Tryz.prog w0 36 ct_field_Elem_Mul) (hg : GlobOK Tryz.prog w0 gs_curve_at) : SoundAt Tryz.prog w0 122 ct_curve_at := by
  have hcs : ∀ x ∈ cs_curve_at, SoundAt Tryz.prog w0 x.1 x.2 := by
    intro x hx
    simp only [cs_curve_at, List.mem_cons, List.not_mem_nil, or_false] at hx
    rcases hx with rfl
    · exact h36
  exact fn_printed hcs hg Tryz.func122 (by kernel_rfl) (by kernel_rfl) (S := 0) (fun w _ => loopsOK_nil _) (fun _ => rfl) (r_curve_at)
theorem k_curve_at {w0 : World}  (hg_curve_at : GlobOK Tryz.prog w0 gs_curve_at) : SoundAt Tryz.prog w0 122 ct_curve_at :=
  s_curve_at (k_field_Elem_Mul) hg_curve_at

def ct_curve_made : Ct := fct (.cons (.ints .u64 5) (.cons (.ints .u64 5) (.cons (.ints .u64 5) (.one (.ints .u64 5))))) (.agg (.one (.agg (.cons (.ints .u64 5) (.cons (.ints .u64 5) (.cons (.ints .u64 5) (.one (.ints .u64 5)))))))) fun x => curve_made x.1 x.2.1 x.2.2.1 x.2.2.2
def cs_curve_made : List (FuncId × Ct) := [(36, ct_field_Elem_Mul)]
def gs_curve_made : List Gv := []
noncomputable def ls_curve_made : List (Nat × Lf) := []
theorem r_curve_made : ∀ x, run Tryz.prog (fun g => lkG g (cs_curve_made)) (glAt gs_curve_made 0) (gs_curve_made.length + 0) (memAt gs_curve_made 0 ++ (unc gs_curve_made.length (Ag.mk ((.cons (.ints .u64 5) (.cons (.ints .u64 5) (.cons (.ints .u64 5) (.one (.ints .u64 5)))))) x)).2) (fun i => lkL i (ls_curve_made)) 100 Tryz.f38 (unc gs_curve_made.length (Ag.mk ((.cons (.ints .u64 5) (.cons (.ints .u64 5) (.cons (.ints .u64 5) (.one (.ints .u64 5)))))) x)).1 none (Pt.get ((.agg (.one (.agg (.cons (.ints .u64 5) (.cons (.ints .u64 5) (.cons (.ints .u64 5) (.one (.ints .u64 5)))))))))) = curve_made x.1 x.2.1 x.2.2.1 x.2.2.2 := by
  intro x; kernel_rfl
theorem s_curve_made {w0 : World}  (h36 : SoundAt Tryz.prog w0 36 ct_field_Elem_Mul) : SoundAt Tryz.prog w0 38 ct_curve_made := by
  have hcs : ∀ x ∈ cs_curve_made, SoundAt Tryz.prog w0 x.1 x.2 := by
    intro x hx
    simp only [cs_curve_made, List.mem_cons, List.not_mem_nil, or_false] at hx
    rcases hx with rfl
    · exact h36
  exact fn_printed hcs (glob_nil _ _) Tryz.func38 (by kernel_rfl) (by kernel_rfl) (S := 0) (fun w _ => loopsOK_nil _) (fun _ => rfl) (r_curve_made)
theorem k_curve_made {w0 : World}  : SoundAt Tryz.prog w0 38 ct_curve_made :=
  s_curve_made (k_field_Elem_Mul)

def ct_curve_Point_Add : Ct := fct (.cons (.agg (.one (.agg (.cons (.ints .u64 5) (.cons (.ints .u64 5) (.cons (.ints .u64 5) (.one (.ints .u64 5)))))))) (.one (.agg (.one (.agg (.cons (.ints .u64 5) (.cons (.ints .u64 5) (.cons (.ints .u64 5) (.one (.ints .u64 5)))))))))) (.agg (.one (.agg (.cons (.ints .u64 5) (.cons (.ints .u64 5) (.cons (.ints .u64 5) (.one (.ints .u64 5)))))))) fun x => curve_Point_Add x.1 x.2
def cs_curve_Point_Add : List (FuncId × Ct) := [(34, ct_curve_place_whole), (35, ct_field_Elem_Sub), (36, ct_field_Elem_Mul), (37, ct_field_Elem_Add), (38, ct_curve_made)]
def gs_curve_Point_Add : List Gv := [⟨0, 26, (.ints .u64 5 [1859910466990425, 932731440258426, 1072319116312658, 1815898335770999, 633789495995903])⟩]
noncomputable def ls_curve_Point_Add : List (Nat × Lf) := []
theorem r_curve_Point_Add : ∀ x, run Tryz.prog (fun g => lkG g (cs_curve_Point_Add)) (glAt gs_curve_Point_Add 0) (gs_curve_Point_Add.length + 0) (memAt gs_curve_Point_Add 0 ++ (unc gs_curve_Point_Add.length (Ag.mk ((.cons (.agg (.one (.agg (.cons (.ints .u64 5) (.cons (.ints .u64 5) (.cons (.ints .u64 5) (.one (.ints .u64 5)))))))) (.one (.agg (.one (.agg (.cons (.ints .u64 5) (.cons (.ints .u64 5) (.cons (.ints .u64 5) (.one (.ints .u64 5))))))))))) x)).2) (fun i => lkL i (ls_curve_Point_Add)) 100 Tryz.f10 (unc gs_curve_Point_Add.length (Ag.mk ((.cons (.agg (.one (.agg (.cons (.ints .u64 5) (.cons (.ints .u64 5) (.cons (.ints .u64 5) (.one (.ints .u64 5)))))))) (.one (.agg (.one (.agg (.cons (.ints .u64 5) (.cons (.ints .u64 5) (.cons (.ints .u64 5) (.one (.ints .u64 5))))))))))) x)).1 none (Pt.get ((.agg (.one (.agg (.cons (.ints .u64 5) (.cons (.ints .u64 5) (.cons (.ints .u64 5) (.one (.ints .u64 5)))))))))) = curve_Point_Add x.1 x.2 := by
  intro x; kernel_rfl
theorem s_curve_Point_Add {w0 : World}  (h34 : SoundAt Tryz.prog w0 34 ct_curve_place_whole) (h35 : SoundAt Tryz.prog w0 35 ct_field_Elem_Sub) (h36 : SoundAt Tryz.prog w0 36 ct_field_Elem_Mul) (h37 : SoundAt Tryz.prog w0 37 ct_field_Elem_Add) (h38 : SoundAt Tryz.prog w0 38 ct_curve_made) (hg : GlobOK Tryz.prog w0 gs_curve_Point_Add) : SoundAt Tryz.prog w0 10 ct_curve_Point_Add := by
  have hcs : ∀ x ∈ cs_curve_Point_Add, SoundAt Tryz.prog w0 x.1 x.2 := by
    intro x hx
    simp only [cs_curve_Point_Add, List.mem_cons, List.not_mem_nil, or_false] at hx
    rcases hx with rfl | rfl | rfl | rfl | rfl
    · exact h34
    · exact h35
    · exact h36
    · exact h37
    · exact h38
  exact fn_printed hcs hg Tryz.func10 (by kernel_rfl) (by kernel_rfl) (S := 0) (fun w _ => loopsOK_nil _) (fun _ => rfl) (r_curve_Point_Add)
theorem k_curve_Point_Add {w0 : World}  (hg_curve_place_whole : GlobOK Tryz.prog w0 gs_curve_place_whole) (hg_curve_Point_Add : GlobOK Tryz.prog w0 gs_curve_Point_Add) : SoundAt Tryz.prog w0 10 ct_curve_Point_Add :=
  s_curve_Point_Add (k_curve_place_whole hg_curve_place_whole) (k_field_Elem_Sub) (k_field_Elem_Mul) (k_field_Elem_Add) (k_curve_made) hg_curve_Point_Add

def ct_curve_Point_Neg : Ct := tct (.one (.agg (.one (.agg (.cons (.ints .u64 5) (.cons (.ints .u64 5) (.cons (.ints .u64 5) (.one (.ints .u64 5))))))))) (.agg (.one (.agg (.cons (.ints .u64 5) (.cons (.ints .u64 5) (.cons (.ints .u64 5) (.one (.ints .u64 5)))))))) fun x => curve_Point_Neg x
def cs_curve_Point_Neg : List (FuncId × Ct) := [(34, ct_curve_place_whole), (58, ct_field_Elem_Neg)]
def gs_curve_Point_Neg : List Gv := []
noncomputable def ls_curve_Point_Neg : List (Nat × Lf) := []
theorem r_curve_Point_Neg : ∀ x, run Tryz.prog (fun g => lkG g (cs_curve_Point_Neg)) (glAt gs_curve_Point_Neg 0) (gs_curve_Point_Neg.length + 0) (memAt gs_curve_Point_Neg 0 ++ (unc gs_curve_Point_Neg.length (Ag.mk ((.one (.agg (.one (.agg (.cons (.ints .u64 5) (.cons (.ints .u64 5) (.cons (.ints .u64 5) (.one (.ints .u64 5)))))))))) x)).2) (fun i => lkL i (ls_curve_Point_Neg)) 100 Tryz.f100 (unc gs_curve_Point_Neg.length (Ag.mk ((.one (.agg (.one (.agg (.cons (.ints .u64 5) (.cons (.ints .u64 5) (.cons (.ints .u64 5) (.one (.ints .u64 5)))))))))) x)).1 none (Pt.get ((.agg (.one (.agg (.cons (.ints .u64 5) (.cons (.ints .u64 5) (.cons (.ints .u64 5) (.one (.ints .u64 5)))))))))) = some (curve_Point_Neg x) := by
  intro x; kernel_rfl
theorem s_curve_Point_Neg {w0 : World}  (h34 : SoundAt Tryz.prog w0 34 ct_curve_place_whole) (h58 : SoundAt Tryz.prog w0 58 ct_field_Elem_Neg) : SoundAt Tryz.prog w0 100 ct_curve_Point_Neg := by
  have hcs : ∀ x ∈ cs_curve_Point_Neg, SoundAt Tryz.prog w0 x.1 x.2 := by
    intro x hx
    simp only [cs_curve_Point_Neg, List.mem_cons, List.not_mem_nil, or_false] at hx
    rcases hx with rfl | rfl
    · exact h34
    · exact h58
  exact sound_tct (fn_printed hcs (glob_nil _ _) Tryz.func100 (by kernel_rfl) (by kernel_rfl) (S := 0) (fun w _ => loopsOK_nil _) (fun _ => rfl) (r_curve_Point_Neg)) fun _ _ => rfl
theorem k_curve_Point_Neg {w0 : World}  (hg_curve_place_whole : GlobOK Tryz.prog w0 gs_curve_place_whole) : SoundAt Tryz.prog w0 100 ct_curve_Point_Neg :=
  s_curve_Point_Neg (k_curve_place_whole hg_curve_place_whole) (k_field_Elem_Neg)

def ct_curve_Point_Sub : Ct := fct (.cons (.agg (.one (.agg (.cons (.ints .u64 5) (.cons (.ints .u64 5) (.cons (.ints .u64 5) (.one (.ints .u64 5)))))))) (.one (.agg (.one (.agg (.cons (.ints .u64 5) (.cons (.ints .u64 5) (.cons (.ints .u64 5) (.one (.ints .u64 5)))))))))) (.agg (.one (.agg (.cons (.ints .u64 5) (.cons (.ints .u64 5) (.cons (.ints .u64 5) (.one (.ints .u64 5)))))))) fun x => curve_Point_Sub x.1 x.2
def cs_curve_Point_Sub : List (FuncId × Ct) := [(10, ct_curve_Point_Add), (100, ct_curve_Point_Neg)]
def gs_curve_Point_Sub : List Gv := []
noncomputable def ls_curve_Point_Sub : List (Nat × Lf) := []
theorem r_curve_Point_Sub : ∀ x, run Tryz.prog (fun g => lkG g (cs_curve_Point_Sub)) (glAt gs_curve_Point_Sub 0) (gs_curve_Point_Sub.length + 0) (memAt gs_curve_Point_Sub 0 ++ (unc gs_curve_Point_Sub.length (Ag.mk ((.cons (.agg (.one (.agg (.cons (.ints .u64 5) (.cons (.ints .u64 5) (.cons (.ints .u64 5) (.one (.ints .u64 5)))))))) (.one (.agg (.one (.agg (.cons (.ints .u64 5) (.cons (.ints .u64 5) (.cons (.ints .u64 5) (.one (.ints .u64 5))))))))))) x)).2) (fun i => lkL i (ls_curve_Point_Sub)) 100 Tryz.f41 (unc gs_curve_Point_Sub.length (Ag.mk ((.cons (.agg (.one (.agg (.cons (.ints .u64 5) (.cons (.ints .u64 5) (.cons (.ints .u64 5) (.one (.ints .u64 5)))))))) (.one (.agg (.one (.agg (.cons (.ints .u64 5) (.cons (.ints .u64 5) (.cons (.ints .u64 5) (.one (.ints .u64 5))))))))))) x)).1 none (Pt.get ((.agg (.one (.agg (.cons (.ints .u64 5) (.cons (.ints .u64 5) (.cons (.ints .u64 5) (.one (.ints .u64 5)))))))))) = curve_Point_Sub x.1 x.2 := by
  intro x; kernel_rfl
theorem s_curve_Point_Sub {w0 : World}  (h10 : SoundAt Tryz.prog w0 10 ct_curve_Point_Add) (h100 : SoundAt Tryz.prog w0 100 ct_curve_Point_Neg) : SoundAt Tryz.prog w0 41 ct_curve_Point_Sub := by
  have hcs : ∀ x ∈ cs_curve_Point_Sub, SoundAt Tryz.prog w0 x.1 x.2 := by
    intro x hx
    simp only [cs_curve_Point_Sub, List.mem_cons, List.not_mem_nil, or_false] at hx
    rcases hx with rfl | rfl
    · exact h10
    · exact h100
  exact fn_printed hcs (glob_nil _ _) Tryz.func41 (by kernel_rfl) (by kernel_rfl) (S := 0) (fun w _ => loopsOK_nil _) (fun _ => rfl) (r_curve_Point_Sub)
theorem k_curve_Point_Sub {w0 : World}  (hg_curve_place_whole : GlobOK Tryz.prog w0 gs_curve_place_whole) (hg_curve_Point_Add : GlobOK Tryz.prog w0 gs_curve_Point_Add) : SoundAt Tryz.prog w0 41 ct_curve_Point_Sub :=
  s_curve_Point_Sub (k_curve_Point_Add hg_curve_place_whole hg_curve_Point_Add) (k_curve_Point_Neg hg_curve_place_whole)

def ct_curve_Point_Double : Ct := fct (.one (.agg (.one (.agg (.cons (.ints .u64 5) (.cons (.ints .u64 5) (.cons (.ints .u64 5) (.one (.ints .u64 5))))))))) (.agg (.one (.agg (.cons (.ints .u64 5) (.cons (.ints .u64 5) (.cons (.ints .u64 5) (.one (.ints .u64 5)))))))) fun x => curve_Point_Double x
def cs_curve_Point_Double : List (FuncId × Ct) := [(34, ct_curve_place_whole), (35, ct_field_Elem_Sub), (37, ct_field_Elem_Add), (38, ct_curve_made), (53, ct_field_Elem_Square), (58, ct_field_Elem_Neg)]
def gs_curve_Point_Double : List Gv := []
noncomputable def ls_curve_Point_Double : List (Nat × Lf) := []
theorem r_curve_Point_Double : ∀ x, run Tryz.prog (fun g => lkG g (cs_curve_Point_Double)) (glAt gs_curve_Point_Double 0) (gs_curve_Point_Double.length + 0) (memAt gs_curve_Point_Double 0 ++ (unc gs_curve_Point_Double.length (Ag.mk ((.one (.agg (.one (.agg (.cons (.ints .u64 5) (.cons (.ints .u64 5) (.cons (.ints .u64 5) (.one (.ints .u64 5)))))))))) x)).2) (fun i => lkL i (ls_curve_Point_Double)) 100 Tryz.f32 (unc gs_curve_Point_Double.length (Ag.mk ((.one (.agg (.one (.agg (.cons (.ints .u64 5) (.cons (.ints .u64 5) (.cons (.ints .u64 5) (.one (.ints .u64 5)))))))))) x)).1 none (Pt.get ((.agg (.one (.agg (.cons (.ints .u64 5) (.cons (.ints .u64 5) (.cons (.ints .u64 5) (.one (.ints .u64 5)))))))))) = curve_Point_Double x := by
  intro x; kernel_rfl
theorem s_curve_Point_Double {w0 : World}  (h34 : SoundAt Tryz.prog w0 34 ct_curve_place_whole) (h35 : SoundAt Tryz.prog w0 35 ct_field_Elem_Sub) (h37 : SoundAt Tryz.prog w0 37 ct_field_Elem_Add) (h38 : SoundAt Tryz.prog w0 38 ct_curve_made) (h53 : SoundAt Tryz.prog w0 53 ct_field_Elem_Square) (h58 : SoundAt Tryz.prog w0 58 ct_field_Elem_Neg) : SoundAt Tryz.prog w0 32 ct_curve_Point_Double := by
  have hcs : ∀ x ∈ cs_curve_Point_Double, SoundAt Tryz.prog w0 x.1 x.2 := by
    intro x hx
    simp only [cs_curve_Point_Double, List.mem_cons, List.not_mem_nil, or_false] at hx
    rcases hx with rfl | rfl | rfl | rfl | rfl | rfl
    · exact h34
    · exact h35
    · exact h37
    · exact h38
    · exact h53
    · exact h58
  exact fn_printed hcs (glob_nil _ _) Tryz.func32 (by kernel_rfl) (by kernel_rfl) (S := 0) (fun w _ => loopsOK_nil _) (fun _ => rfl) (r_curve_Point_Double)
theorem k_curve_Point_Double {w0 : World}  (hg_curve_place_whole : GlobOK Tryz.prog w0 gs_curve_place_whole) : SoundAt Tryz.prog w0 32 ct_curve_Point_Double :=
  s_curve_Point_Double (k_curve_place_whole hg_curve_place_whole) (k_field_Elem_Sub) (k_field_Elem_Add) (k_curve_made) (k_field_Elem_Square) (k_field_Elem_Neg)

def ct_curve_Point_Same : Ct := fct (.cons (.agg (.one (.agg (.cons (.ints .u64 5) (.cons (.ints .u64 5) (.cons (.ints .u64 5) (.one (.ints .u64 5)))))))) (.one (.agg (.one (.agg (.cons (.ints .u64 5) (.cons (.ints .u64 5) (.cons (.ints .u64 5) (.one (.ints .u64 5)))))))))) .bool fun x => curve_Point_Same x.1 x.2
def cs_curve_Point_Same : List (FuncId × Ct) := [(34, ct_curve_place_whole), (36, ct_field_Elem_Mul)]
def gs_curve_Point_Same : List Gv := []
noncomputable def ls_curve_Point_Same : List (Nat × Lf) := []
theorem r_curve_Point_Same : ∀ x, run Tryz.prog (fun g => lkG g (cs_curve_Point_Same)) (glAt gs_curve_Point_Same 0) (gs_curve_Point_Same.length + 0) (memAt gs_curve_Point_Same 0 ++ (unc gs_curve_Point_Same.length (Ag.mk ((.cons (.agg (.one (.agg (.cons (.ints .u64 5) (.cons (.ints .u64 5) (.cons (.ints .u64 5) (.one (.ints .u64 5)))))))) (.one (.agg (.one (.agg (.cons (.ints .u64 5) (.cons (.ints .u64 5) (.cons (.ints .u64 5) (.one (.ints .u64 5))))))))))) x)).2) (fun i => lkL i (ls_curve_Point_Same)) 100 Tryz.f42 (unc gs_curve_Point_Same.length (Ag.mk ((.cons (.agg (.one (.agg (.cons (.ints .u64 5) (.cons (.ints .u64 5) (.cons (.ints .u64 5) (.one (.ints .u64 5)))))))) (.one (.agg (.one (.agg (.cons (.ints .u64 5) (.cons (.ints .u64 5) (.cons (.ints .u64 5) (.one (.ints .u64 5))))))))))) x)).1 none (Pt.get (.bool)) = curve_Point_Same x.1 x.2 := by
  intro x; kernel_rfl
theorem s_curve_Point_Same {w0 : World}  (h34 : SoundAt Tryz.prog w0 34 ct_curve_place_whole) (h36 : SoundAt Tryz.prog w0 36 ct_field_Elem_Mul) : SoundAt Tryz.prog w0 42 ct_curve_Point_Same := by
  have hcs : ∀ x ∈ cs_curve_Point_Same, SoundAt Tryz.prog w0 x.1 x.2 := by
    intro x hx
    simp only [cs_curve_Point_Same, List.mem_cons, List.not_mem_nil, or_false] at hx
    rcases hx with rfl | rfl
    · exact h34
    · exact h36
  exact fn_printed hcs (glob_nil _ _) Tryz.func42 (by kernel_rfl) (by kernel_rfl) (S := 0) (fun w _ => loopsOK_nil _) (fun _ => rfl) (r_curve_Point_Same)
theorem k_curve_Point_Same {w0 : World}  (hg_curve_place_whole : GlobOK Tryz.prog w0 gs_curve_place_whole) : SoundAt Tryz.prog w0 42 ct_curve_Point_Same :=
  s_curve_Point_Same (k_curve_place_whole hg_curve_place_whole) (k_field_Elem_Mul)

def ct_curve_Point_Affine (N : Nat) : Ct := fct (.one (.agg (.one (.agg (.cons (.ints .u64 5) (.cons (.ints .u64 5) (.cons (.ints .u64 5) (.one (.ints .u64 5))))))))) (.tup (.cons (.ints .u64 5) (.one (.ints .u64 5)))) fun x => curve_Point_Affine N x
def cs_curve_Point_Affine (N : Nat) : List (FuncId × Ct) := [(34, ct_curve_place_whole), (36, ct_field_Elem_Mul), (76, (ct_field_Elem_Invert N))]
def gs_curve_Point_Affine : List Gv := []
noncomputable def ls_curve_Point_Affine (N : Nat) : List (Nat × Lf) := []
theorem r_curve_Point_Affine (N : Nat) : ∀ x, run Tryz.prog (fun g => lkG g (cs_curve_Point_Affine N)) (glAt gs_curve_Point_Affine 0) (gs_curve_Point_Affine.length + 0) (memAt gs_curve_Point_Affine 0 ++ (unc gs_curve_Point_Affine.length (Ag.mk ((.one (.agg (.one (.agg (.cons (.ints .u64 5) (.cons (.ints .u64 5) (.cons (.ints .u64 5) (.one (.ints .u64 5)))))))))) x)).2) (fun i => lkL i (ls_curve_Point_Affine N)) 100 Tryz.f39 (unc gs_curve_Point_Affine.length (Ag.mk ((.one (.agg (.one (.agg (.cons (.ints .u64 5) (.cons (.ints .u64 5) (.cons (.ints .u64 5) (.one (.ints .u64 5)))))))))) x)).1 none (Pt.get ((.tup (.cons (.ints .u64 5) (.one (.ints .u64 5)))))) = curve_Point_Affine N x := by
  intro x; kernel_rfl
theorem s_curve_Point_Affine {w0 : World} (N : Nat)  (h34 : SoundAt Tryz.prog w0 34 ct_curve_place_whole) (h36 : SoundAt Tryz.prog w0 36 ct_field_Elem_Mul) (h76 : SoundAt Tryz.prog w0 76 (ct_field_Elem_Invert N)) : SoundAt Tryz.prog w0 39 (ct_curve_Point_Affine N) := by
  have hcs : ∀ x ∈ cs_curve_Point_Affine N, SoundAt Tryz.prog w0 x.1 x.2 := by
    intro x hx
    simp only [cs_curve_Point_Affine, List.mem_cons, List.not_mem_nil, or_false] at hx
    rcases hx with rfl | rfl | rfl
    · exact h34
    · exact h36
    · exact h76
  exact fn_printed hcs (glob_nil _ _) Tryz.func39 (by kernel_rfl) (by kernel_rfl) (S := 0) (fun w _ => loopsOK_nil _) (fun _ => rfl) (r_curve_Point_Affine N)
theorem k_curve_Point_Affine {w0 : World} (N : Nat)  (hg_curve_place_whole : GlobOK Tryz.prog w0 gs_curve_place_whole) : SoundAt Tryz.prog w0 39 (ct_curve_Point_Affine N) :=
  s_curve_Point_Affine N (k_curve_place_whole hg_curve_place_whole) (k_field_Elem_Mul) (k_field_Elem_Invert N)

def ct_curve_FromAffine : Ct := fct (.cons (.ints .u64 5) (.one (.ints .u64 5))) (.tup (.cons (.agg (.one (.agg (.cons (.ints .u64 5) (.cons (.ints .u64 5) (.cons (.ints .u64 5) (.one (.ints .u64 5)))))))) (.one (.int .i64)))) fun x => curve_FromAffine x.1 x.2
def cs_curve_FromAffine : List (FuncId × Ct) := [(35, ct_field_Elem_Sub), (36, ct_field_Elem_Mul), (37, ct_field_Elem_Add), (53, ct_field_Elem_Square), (56, ct_field_Const), (79, ct_field_Elem_Least), (122, ct_curve_at)]
def gs_curve_FromAffine : List Gv := [⟨4, 26, (.ints .u64 5 [1, 0, 0, 0, 0])⟩]
noncomputable def ls_curve_FromAffine : List (Nat × Lf) := []
theorem r_curve_FromAffine : ∀ x, run Tryz.prog (fun g => lkG g (cs_curve_FromAffine)) (glAt gs_curve_FromAffine 0) (gs_curve_FromAffine.length + 0) (memAt gs_curve_FromAffine 0 ++ (unc gs_curve_FromAffine.length (Ag.mk ((.cons (.ints .u64 5) (.one (.ints .u64 5)))) x)).2) (fun i => lkL i (ls_curve_FromAffine)) 100 Tryz.f77 (unc gs_curve_FromAffine.length (Ag.mk ((.cons (.ints .u64 5) (.one (.ints .u64 5)))) x)).1 none (Pt.get ((.tup (.cons (.agg (.one (.agg (.cons (.ints .u64 5) (.cons (.ints .u64 5) (.cons (.ints .u64 5) (.one (.ints .u64 5)))))))) (.one (.int .i64)))))) = curve_FromAffine x.1 x.2 := by
  intro x; kernel_rfl
theorem s_curve_FromAffine {w0 : World}  (h35 : SoundAt Tryz.prog w0 35 ct_field_Elem_Sub) (h36 : SoundAt Tryz.prog w0 36 ct_field_Elem_Mul) (h37 : SoundAt Tryz.prog w0 37 ct_field_Elem_Add) (h53 : SoundAt Tryz.prog w0 53 ct_field_Elem_Square) (h56 : SoundAt Tryz.prog w0 56 ct_field_Const) (h79 : SoundAt Tryz.prog w0 79 ct_field_Elem_Least) (h122 : SoundAt Tryz.prog w0 122 ct_curve_at) (hg : GlobOK Tryz.prog w0 gs_curve_FromAffine) : SoundAt Tryz.prog w0 77 ct_curve_FromAffine := by
  have hcs : ∀ x ∈ cs_curve_FromAffine, SoundAt Tryz.prog w0 x.1 x.2 := by
    intro x hx
    simp only [cs_curve_FromAffine, List.mem_cons, List.not_mem_nil, or_false] at hx
    rcases hx with rfl | rfl | rfl | rfl | rfl | rfl | rfl
    · exact h35
    · exact h36
    · exact h37
    · exact h53
    · exact h56
    · exact h79
    · exact h122
  exact fn_printed hcs hg Tryz.func77 (by kernel_rfl) (by kernel_rfl) (S := 0) (fun w _ => loopsOK_nil _) (fun _ => rfl) (r_curve_FromAffine)
theorem k_curve_FromAffine {w0 : World}  (hg_field_Const : GlobOK Tryz.prog w0 gs_field_Const) (hg_curve_at : GlobOK Tryz.prog w0 gs_curve_at) (hg_curve_FromAffine : GlobOK Tryz.prog w0 gs_curve_FromAffine) : SoundAt Tryz.prog w0 77 ct_curve_FromAffine :=
  s_curve_FromAffine (k_field_Elem_Sub) (k_field_Elem_Mul) (k_field_Elem_Add) (k_field_Elem_Square) (k_field_Const hg_field_Const) (k_field_Elem_Least) (k_curve_at hg_curve_at) hg_curve_FromAffine

def ct_curve_Point_TimesBytes (N : Nat) : Ct := fct (.cons (.agg (.one (.agg (.cons (.ints .u64 5) (.cons (.ints .u64 5) (.cons (.ints .u64 5) (.one (.ints .u64 5)))))))) (.one (.ints .u8 32))) (.agg (.one (.agg (.cons (.ints .u64 5) (.cons (.ints .u64 5) (.cons (.ints .u64 5) (.one (.ints .u64 5)))))))) fun x => curve_Point_TimesBytes N x.1 x.2
def cs_curve_Point_TimesBytes (N : Nat) : List (FuncId × Ct) := [(10, ct_curve_Point_Add), (32, ct_curve_Point_Double)]
def gs_curve_Point_TimesBytes : List Gv := []
def curve_Point_TimesBytes_l0_H : Fm ((Unit × Unit × Unit × Unit × Int)) (((List Int × List Int × List Int × List Int) × List Int × Unit)) := ⟨(.cons 2 (.lit (.ptr 0 [] 30)) (.cons 3 (.lit (.ptr 1 [] 58)) (.cons 4 (.lit (.ptr 2 [] 30)) (.cons 5 (.lit (.int .i64 (-1))) (.one 6 (.int .i64)))))), (.cons 0 (.agg (.one (.agg (.cons (.ints .u64 5) (.cons (.ints .u64 5) (.cons (.ints .u64 5) (.one (.ints .u64 5)))))))) (.cons 1 (.ints .u8 32) (.one 2 (.lit (.agg [(.agg [(.ints .u64 5 [0, 0, 0, 0, 0]), (.ints .u64 5 [0, 0, 0, 0, 0]), (.ints .u64 5 [0, 0, 0, 0, 0]), (.ints .u64 5 [0, 0, 0, 0, 0])])])))))⟩
def curve_Point_TimesBytes_l0_O : Fm ((Unit × Unit × Unit × Int)) (((List Int × List Int × List Int × List Int) × List Int × Unit)) := ⟨(.cons 2 (.lit (.ptr 0 [] 30)) (.cons 3 (.lit (.ptr 1 [] 58)) (.cons 4 (.lit (.ptr 2 [] 30)) (.one 5 (.int .i64))))), (.cons 0 (.agg (.one (.agg (.cons (.ints .u64 5) (.cons (.ints .u64 5) (.cons (.ints .u64 5) (.one (.ints .u64 5)))))))) (.cons 1 (.ints .u8 32) (.one 2 (.lit (.agg [(.agg [(.ints .u64 5 [0, 0, 0, 0, 0]), (.ints .u64 5 [0, 0, 0, 0, 0]), (.ints .u64 5 [0, 0, 0, 0, 0]), (.ints .u64 5 [0, 0, 0, 0, 0])])])))))⟩
def curve_Point_TimesBytes_l0_T : Fm (Unit) (Unit) := ⟨.nil, .nil⟩
def curve_Point_TimesBytes_l6_H : Fm ((Unit × Unit × Unit × Unit × Int)) ((List Int × Unit × ((List Int × List Int × List Int × List Int) × (List Int × List Int × List Int × List Int) × (List Int × List Int × List Int × List Int) × (List Int × List Int × List Int × List Int) × (List Int × List Int × List Int × List Int) × (List Int × List Int × List Int × List Int) × (List Int × List Int × List Int × List Int) × (List Int × List Int × List Int × List Int) × (List Int × List Int × List Int × List Int) × (List Int × List Int × List Int × List Int) × (List Int × List Int × List Int × List Int) × (List Int × List Int × List Int × List Int) × (List Int × List Int × List Int × List Int) × (List Int × List Int × List Int × List Int) × (List Int × List Int × List Int × List Int) × (List Int × List Int × List Int × List Int)) × (List Int × List Int × List Int × List Int))) := ⟨(.cons 3 (.lit (.ptr 1 [] 58)) (.cons 4 (.lit (.ptr 2 [] 30)) (.cons 9 (.lit (.ptr 5 [] 171)) (.cons 11 (.lit (.ptr 219 [] 30)) (.one 12 (.int .i64)))))), (.cons 1 (.ints .u8 32) (.cons 2 (.lit (.agg [(.agg [(.ints .u64 5 [0, 0, 0, 0, 0]), (.ints .u64 5 [0, 0, 0, 0, 0]), (.ints .u64 5 [0, 0, 0, 0, 0]), (.ints .u64 5 [0, 0, 0, 0, 0])])])) (.cons 5 (.agg (.cons (.agg (.one (.agg (.cons (.ints .u64 5) (.cons (.ints .u64 5) (.cons (.ints .u64 5) (.one (.ints .u64 5)))))))) (.cons (.agg (.one (.agg (.cons (.ints .u64 5) (.cons (.ints .u64 5) (.cons (.ints .u64 5) (.one (.ints .u64 5)))))))) (.cons (.agg (.one (.agg (.cons (.ints .u64 5) (.cons (.ints .u64 5) (.cons (.ints .u64 5) (.one (.ints .u64 5)))))))) (.cons (.agg (.one (.agg (.cons (.ints .u64 5) (.cons (.ints .u64 5) (.cons (.ints .u64 5) (.one (.ints .u64 5)))))))) (.cons (.agg (.one (.agg (.cons (.ints .u64 5) (.cons (.ints .u64 5) (.cons (.ints .u64 5) (.one (.ints .u64 5)))))))) (.cons (.agg (.one (.agg (.cons (.ints .u64 5) (.cons (.ints .u64 5) (.cons (.ints .u64 5) (.one (.ints .u64 5)))))))) (.cons (.agg (.one (.agg (.cons (.ints .u64 5) (.cons (.ints .u64 5) (.cons (.ints .u64 5) (.one (.ints .u64 5)))))))) (.cons (.agg (.one (.agg (.cons (.ints .u64 5) (.cons (.ints .u64 5) (.cons (.ints .u64 5) (.one (.ints .u64 5)))))))) (.cons (.agg (.one (.agg (.cons (.ints .u64 5) (.cons (.ints .u64 5) (.cons (.ints .u64 5) (.one (.ints .u64 5)))))))) (.cons (.agg (.one (.agg (.cons (.ints .u64 5) (.cons (.ints .u64 5) (.cons (.ints .u64 5) (.one (.ints .u64 5)))))))) (.cons (.agg (.one (.agg (.cons (.ints .u64 5) (.cons (.ints .u64 5) (.cons (.ints .u64 5) (.one (.ints .u64 5)))))))) (.cons (.agg (.one (.agg (.cons (.ints .u64 5) (.cons (.ints .u64 5) (.cons (.ints .u64 5) (.one (.ints .u64 5)))))))) (.cons (.agg (.one (.agg (.cons (.ints .u64 5) (.cons (.ints .u64 5) (.cons (.ints .u64 5) (.one (.ints .u64 5)))))))) (.cons (.agg (.one (.agg (.cons (.ints .u64 5) (.cons (.ints .u64 5) (.cons (.ints .u64 5) (.one (.ints .u64 5)))))))) (.cons (.agg (.one (.agg (.cons (.ints .u64 5) (.cons (.ints .u64 5) (.cons (.ints .u64 5) (.one (.ints .u64 5)))))))) (.one (.agg (.one (.agg (.cons (.ints .u64 5) (.cons (.ints .u64 5) (.cons (.ints .u64 5) (.one (.ints .u64 5))))))))))))))))))))))))) (.one 219 (.agg (.one (.agg (.cons (.ints .u64 5) (.cons (.ints .u64 5) (.cons (.ints .u64 5) (.one (.ints .u64 5))))))))))))⟩
def curve_Point_TimesBytes_l6_O : Fm ((Unit × Unit)) ((Unit × (List Int × List Int × List Int × List Int))) := ⟨(.cons 4 (.lit (.ptr 2 [] 30)) (.one 11 (.lit (.ptr 219 [] 30)))), (.cons 2 (.lit (.agg [(.agg [(.ints .u64 5 [0, 0, 0, 0, 0]), (.ints .u64 5 [0, 0, 0, 0, 0]), (.ints .u64 5 [0, 0, 0, 0, 0]), (.ints .u64 5 [0, 0, 0, 0, 0])])])) (.one 219 (.agg (.one (.agg (.cons (.ints .u64 5) (.cons (.ints .u64 5) (.cons (.ints .u64 5) (.one (.ints .u64 5))))))))))⟩
def curve_Point_TimesBytes_l6_T : Fm (Unit) (Unit) := ⟨.nil, .nil⟩
noncomputable def ls_curve_Point_TimesBytes (N : Nat) : List (Nat × Lf) := [(0, loopCt curve_Point_TimesBytes_l0_H curve_Point_TimesBytes_l0_O curve_Point_TimesBytes_l0_T 5 (curve_Point_TimesBytes_l0 N) N), (6, loopCt curve_Point_TimesBytes_l6_H curve_Point_TimesBytes_l6_O curve_Point_TimesBytes_l6_T 222 (curve_Point_TimesBytes_l6 N) N)]
theorem curve_Point_TimesBytes_l0_step (N : Nat) : ∀ v, exec Tryz.prog (cxOf Tryz.f95 (cs_curve_Point_TimesBytes N) gs_curve_Point_TimesBytes 0) (fun i => lkL i (ls_curve_Point_TimesBytes N)) 100 none (loopBody Tryz.f95 0) (curve_Point_TimesBytes_l0_H.st 5 v) (rdEnd curve_Point_TimesBytes_l0_H curve_Point_TimesBytes_l0_O curve_Point_TimesBytes_l0_T 5 0) = curve_Point_TimesBytes_l0 N v := by
  intro v; kernel_rfl
theorem curve_Point_TimesBytes_l6_step (N : Nat) : ∀ v, exec Tryz.prog (cxOf Tryz.f95 (cs_curve_Point_TimesBytes N) gs_curve_Point_TimesBytes 0) (fun i => lkL i (ls_curve_Point_TimesBytes N)) 100 none (loopBody Tryz.f95 6) (curve_Point_TimesBytes_l6_H.st 222 v) (rdEnd curve_Point_TimesBytes_l6_H curve_Point_TimesBytes_l6_O curve_Point_TimesBytes_l6_T 222 6) = curve_Point_TimesBytes_l6 N v := by
  intro v; kernel_rfl
theorem r_curve_Point_TimesBytes (N : Nat) : ∀ x, run Tryz.prog (fun g => lkG g (cs_curve_Point_TimesBytes N)) (glAt gs_curve_Point_TimesBytes 0) (gs_curve_Point_TimesBytes.length + 0) (memAt gs_curve_Point_TimesBytes 0 ++ (unc gs_curve_Point_TimesBytes.length (Ag.mk ((.cons (.agg (.one (.agg (.cons (.ints .u64 5) (.cons (.ints .u64 5) (.cons (.ints .u64 5) (.one (.ints .u64 5)))))))) (.one (.ints .u8 32)))) x)).2) (fun i => lkL i (ls_curve_Point_TimesBytes N)) 100 Tryz.f95 (unc gs_curve_Point_TimesBytes.length (Ag.mk ((.cons (.agg (.one (.agg (.cons (.ints .u64 5) (.cons (.ints .u64 5) (.cons (.ints .u64 5) (.one (.ints .u64 5)))))))) (.one (.ints .u8 32)))) x)).1 none (Pt.get ((.agg (.one (.agg (.cons (.ints .u64 5) (.cons (.ints .u64 5) (.cons (.ints .u64 5) (.one (.ints .u64 5)))))))))) = curve_Point_TimesBytes N x.1 x.2 := by
  intro x; kernel_rfl
theorem s_curve_Point_TimesBytes {w0 : World} (N : Nat)  (h10 : SoundAt Tryz.prog w0 10 ct_curve_Point_Add) (h32 : SoundAt Tryz.prog w0 32 ct_curve_Point_Double) : SoundAt Tryz.prog w0 95 (ct_curve_Point_TimesBytes N) := by
  have hcs : ∀ x ∈ cs_curve_Point_TimesBytes N, SoundAt Tryz.prog w0 x.1 x.2 := by
    intro x hx
    simp only [cs_curve_Point_TimesBytes, List.mem_cons, List.not_mem_nil, or_false] at hx
    rcases hx with rfl | rfl
    · exact h10
    · exact h32
  have L0 : ∀ w, RowKit.Below w0.heap.size w0 w → LoopOK Tryz.prog (cxOf Tryz.f95 (cs_curve_Point_TimesBytes N) gs_curve_Point_TimesBytes 0) w 0 (.loop (loopBody Tryz.f95 0)) (loopCt curve_Point_TimesBytes_l0_H curve_Point_TimesBytes_l0_O curve_Point_TimesBytes_l0_T 5 (curve_Point_TimesBytes_l0 N) N) :=
    loop_printed hcs (ls := ls_curve_Point_TimesBytes N) (n := 100) (by kernel_rfl) (curve_Point_TimesBytes_l0_step N) N fun w hw => loopsOK_list (by
      intro x hx
      simp only [ls_curve_Point_TimesBytes, List.mem_cons, List.not_mem_nil, or_false] at hx
      rcases hx with rfl | rfl
      · exact .inl (by kernel_rfl)
      · exact .inl (by kernel_rfl)
    )
  have L6 : ∀ w, RowKit.Below w0.heap.size w0 w → LoopOK Tryz.prog (cxOf Tryz.f95 (cs_curve_Point_TimesBytes N) gs_curve_Point_TimesBytes 0) w 6 (.loop (loopBody Tryz.f95 6)) (loopCt curve_Point_TimesBytes_l6_H curve_Point_TimesBytes_l6_O curve_Point_TimesBytes_l6_T 222 (curve_Point_TimesBytes_l6 N) N) :=
    loop_printed hcs (ls := ls_curve_Point_TimesBytes N) (n := 100) (by kernel_rfl) (curve_Point_TimesBytes_l6_step N) N fun w hw => loopsOK_list (by
      intro x hx
      simp only [ls_curve_Point_TimesBytes, List.mem_cons, List.not_mem_nil, or_false] at hx
      rcases hx with rfl | rfl
      · exact .inl (by kernel_rfl)
      · exact .inl (by kernel_rfl)
    )
  exact fn_printed hcs (glob_nil _ _) Tryz.func95 (by kernel_rfl) (by kernel_rfl) (S := 0) (fun w hw => loopsOK_list (by
    intro x hx
    simp only [ls_curve_Point_TimesBytes, List.mem_cons, List.not_mem_nil, or_false] at hx
    rcases hx with rfl | rfl
    · exact .inr ⟨_, by kernel_rfl, L0 w hw⟩
    · exact .inr ⟨_, by kernel_rfl, L6 w hw⟩
  )) (fun _ => rfl) (r_curve_Point_TimesBytes N)
theorem k_curve_Point_TimesBytes {w0 : World} (N : Nat)  (hg_curve_place_whole : GlobOK Tryz.prog w0 gs_curve_place_whole) (hg_curve_Point_Add : GlobOK Tryz.prog w0 gs_curve_Point_Add) : SoundAt Tryz.prog w0 95 (ct_curve_Point_TimesBytes N) :=
  s_curve_Point_TimesBytes N (k_curve_Point_Add hg_curve_place_whole hg_curve_Point_Add) (k_curve_Point_Double hg_curve_place_whole)

def ct_curve_Point_Free (N : Nat) : Ct := fct (.one (.agg (.one (.agg (.cons (.ints .u64 5) (.cons (.ints .u64 5) (.cons (.ints .u64 5) (.one (.ints .u64 5))))))))) .bool fun x => curve_Point_Free N x
def cs_curve_Point_Free (N : Nat) : List (FuncId × Ct) := [(42, ct_curve_Point_Same), (95, (ct_curve_Point_TimesBytes N))]
def gs_curve_Point_Free : List Gv := [⟨3, 58, (.ints .u8 32 [237, 211, 245, 92, 26, 99, 18, 88, 214, 156, 247, 162, 222, 249, 222, 20, 0, 0, 0, 0, 0, 0, 0, 0, 0, 0, 0, 0, 0, 0, 0, 16])⟩]
noncomputable def ls_curve_Point_Free (N : Nat) : List (Nat × Lf) := []
theorem r_curve_Point_Free (N : Nat) : ∀ x, run Tryz.prog (fun g => lkG g (cs_curve_Point_Free N)) (glAt gs_curve_Point_Free 0) (gs_curve_Point_Free.length + 0) (memAt gs_curve_Point_Free 0 ++ (unc gs_curve_Point_Free.length (Ag.mk ((.one (.agg (.one (.agg (.cons (.ints .u64 5) (.cons (.ints .u64 5) (.cons (.ints .u64 5) (.one (.ints .u64 5)))))))))) x)).2) (fun i => lkL i (ls_curve_Point_Free N)) 100 Tryz.f33 (unc gs_curve_Point_Free.length (Ag.mk ((.one (.agg (.one (.agg (.cons (.ints .u64 5) (.cons (.ints .u64 5) (.cons (.ints .u64 5) (.one (.ints .u64 5)))))))))) x)).1 none (Pt.get (.bool)) = curve_Point_Free N x := by
  intro x; kernel_rfl
theorem s_curve_Point_Free {w0 : World} (N : Nat)  (h42 : SoundAt Tryz.prog w0 42 ct_curve_Point_Same) (h95 : SoundAt Tryz.prog w0 95 (ct_curve_Point_TimesBytes N)) (hg : GlobOK Tryz.prog w0 gs_curve_Point_Free) : SoundAt Tryz.prog w0 33 (ct_curve_Point_Free N) := by
  have hcs : ∀ x ∈ cs_curve_Point_Free N, SoundAt Tryz.prog w0 x.1 x.2 := by
    intro x hx
    simp only [cs_curve_Point_Free, List.mem_cons, List.not_mem_nil, or_false] at hx
    rcases hx with rfl | rfl
    · exact h42
    · exact h95
  exact fn_printed hcs hg Tryz.func33 (by kernel_rfl) (by kernel_rfl) (S := 0) (fun w _ => loopsOK_nil _) (fun _ => rfl) (r_curve_Point_Free N)
theorem k_curve_Point_Free {w0 : World} (N : Nat)  (hg_curve_place_whole : GlobOK Tryz.prog w0 gs_curve_place_whole) (hg_curve_Point_Add : GlobOK Tryz.prog w0 gs_curve_Point_Add) (hg_curve_Point_Free : GlobOK Tryz.prog w0 gs_curve_Point_Free) : SoundAt Tryz.prog w0 33 (ct_curve_Point_Free N) :=
  s_curve_Point_Free N (k_curve_Point_Same hg_curve_place_whole) (k_curve_Point_TimesBytes N hg_curve_place_whole hg_curve_Point_Add) hg_curve_Point_Free

def ct_curve_Point_Compress (N : Nat) : Ct := fct (.one (.agg (.one (.agg (.cons (.ints .u64 5) (.cons (.ints .u64 5) (.cons (.ints .u64 5) (.one (.ints .u64 5))))))))) (.ints .u8 32) fun x => curve_Point_Compress N x
def cs_curve_Point_Compress (N : Nat) : List (FuncId × Ct) := [(39, (ct_curve_Point_Affine N)), (55, ct_field_Elem_Negative), (60, ct_field_Elem_Encode)]
def gs_curve_Point_Compress : List Gv := []
noncomputable def is_curve_Point_Compress (N : Nat) : List (FuncId × Inl) := ((91, inlOf Tryz.prog (cs_curve_Point_Compress N) gs_curve_Point_Compress 0 100 [] Tryz.f91) :: [])
theorem isok_curve_Point_Compress (N : Nat) : InlAll Tryz.prog (cs_curve_Point_Compress N) gs_curve_Point_Compress 0 100 (is_curve_Point_Compress N) := ⟨⟨Tryz.f91, Tryz.func91, by kernel_rfl, by kernel_rfl, rfl⟩, trivial⟩
noncomputable def ls_curve_Point_Compress (N : Nat) : List (Nat × Lf) := []
theorem r_curve_Point_Compress (N : Nat) : ∀ x, run Tryz.prog (fun g => lkG g (cs_curve_Point_Compress N)) (glAt gs_curve_Point_Compress 0) (gs_curve_Point_Compress.length + 0) (memAt gs_curve_Point_Compress 0 ++ (unc gs_curve_Point_Compress.length (Ag.mk ((.one (.agg (.one (.agg (.cons (.ints .u64 5) (.cons (.ints .u64 5) (.cons (.ints .u64 5) (.one (.ints .u64 5)))))))))) x)).2) (fun i => lkL i (ls_curve_Point_Compress N)) 100 Tryz.f26 (unc gs_curve_Point_Compress.length (Ag.mk ((.one (.agg (.one (.agg (.cons (.ints .u64 5) (.cons (.ints .u64 5) (.cons (.ints .u64 5) (.one (.ints .u64 5)))))))))) x)).1 none (Pt.get ((.ints .u8 32))) (fun g => lkI g (is_curve_Point_Compress N)) = curve_Point_Compress N x := by
  intro x; kernel_rfl
theorem s_curve_Point_Compress {w0 : World} (N : Nat)  (h39 : SoundAt Tryz.prog w0 39 (ct_curve_Point_Affine N)) (h55 : SoundAt Tryz.prog w0 55 ct_field_Elem_Negative) (h60 : SoundAt Tryz.prog w0 60 ct_field_Elem_Encode) : SoundAt Tryz.prog w0 26 (ct_curve_Point_Compress N) := by
  have hcs : ∀ x ∈ cs_curve_Point_Compress N, SoundAt Tryz.prog w0 x.1 x.2 := by
    intro x hx
    simp only [cs_curve_Point_Compress, List.mem_cons, List.not_mem_nil, or_false] at hx
    rcases hx with rfl | rfl | rfl
    · exact h39
    · exact h55
    · exact h60
  exact fn_printedI hcs (glob_nil _ _) (isok_curve_Point_Compress N) Tryz.func26 (by kernel_rfl) (by kernel_rfl) (S := 0) (fun w _ => loopsOK_nil _) (fun _ => rfl) (r_curve_Point_Compress N)
theorem k_curve_Point_Compress {w0 : World} (N : Nat)  (hg_curve_place_whole : GlobOK Tryz.prog w0 gs_curve_place_whole) : SoundAt Tryz.prog w0 26 (ct_curve_Point_Compress N) :=
  s_curve_Point_Compress N (k_curve_Point_Affine N hg_curve_place_whole) (k_field_Elem_Negative) (k_field_Elem_Encode)

def ct_curve_Torsion : Ct := fct (.one (.int .i64)) (.agg (.one (.agg (.cons (.ints .u64 5) (.cons (.ints .u64 5) (.cons (.ints .u64 5) (.one (.ints .u64 5)))))))) fun x => curve_Torsion x
def cs_curve_Torsion : List (FuncId × Ct) := []
def gs_curve_Torsion : List Gv := [⟨1, 87, (.agg [(.agg [(.agg [(.ints .u64 5 [0, 0, 0, 0, 0]), (.ints .u64 5 [0, 0, 0, 0, 0]), (.ints .u64 5 [0, 0, 0, 0, 0]), (.ints .u64 5 [0, 0, 0, 0, 0])])]), (.agg [(.agg [(.ints .u64 5 [358744748052810, 1691584618240980, 977650209285361, 1429865912637724, 560044844278676]), (.ints .u64 5 [2166873539340326, 1778179147085316, 1886209374839743, 1223329526802818, 105300633354275]), (.ints .u64 5 [1, 0, 0, 0, 0]), (.ints .u64 5 [803472979097708, 393902981724766, 1158077081819914, 574391322974006, 336294660666841])])]), (.agg [(.agg [(.ints .u64 5 [1718705420411056, 234908883556509, 2233514472574048, 2117202627021982, 765476049583133]), (.ints .u64 5 [0, 0, 0, 0, 0]), (.ints .u64 5 [1, 0, 0, 0, 0]), (.ints .u64 5 [0, 0, 0, 0, 0])])]), (.agg [(.agg [(.ints .u64 5 [358744748052810, 1691584618240980, 977650209285361, 1429865912637724, 560044844278676]), (.ints .u64 5 [84926274344903, 473620666599931, 365590438845504, 1028470286882429, 2146499180330972]), (.ints .u64 5 [1, 0, 0, 0, 0]), (.ints .u64 5 [1448326834587521, 1857896831960481, 1093722731865333, 1677408490711241, 1915505153018406])])]), (.agg [(.agg [(.ints .u64 5 [0, 0, 0, 0, 0]), (.ints .u64 5 [2251799813685228, 2251799813685247, 2251799813685247, 2251799813685247, 2251799813685247]), (.ints .u64 5 [1, 0, 0, 0, 0]), (.ints .u64 5 [0, 0, 0, 0, 0])])]), (.agg [(.agg [(.ints .u64 5 [1893055065632419, 560215195444267, 1274149604399886, 821933901047523, 1691754969406571]), (.ints .u64 5 [84926274344903, 473620666599931, 365590438845504, 1028470286882429, 2146499180330972]), (.ints .u64 5 [1, 0, 0, 0, 0]), (.ints .u64 5 [803472979097708, 393902981724766, 1158077081819914, 574391322974006, 336294660666841])])]), (.agg [(.agg [(.ints .u64 5 [533094393274173, 2016890930128738, 18285341111199, 134597186663265, 1486323764102114]), (.ints .u64 5 [0, 0, 0, 0, 0]), (.ints .u64 5 [1, 0, 0, 0, 0]), (.ints .u64 5 [0, 0, 0, 0, 0])])]), (.agg [(.agg [(.ints .u64 5 [1893055065632419, 560215195444267, 1274149604399886, 821933901047523, 1691754969406571]), (.ints .u64 5 [2166873539340326, 1778179147085316, 1886209374839743, 1223329526802818, 105300633354275]), (.ints .u64 5 [1, 0, 0, 0, 0]), (.ints .u64 5 [1448326834587521, 1857896831960481, 1093722731865333, 1677408490711241, 1915505153018406])])])])⟩]
noncomputable def ls_curve_Torsion : List (Nat × Lf) := []
theorem r_curve_Torsion : ∀ x, run Tryz.prog (fun g => lkG g (cs_curve_Torsion)) (glAt gs_curve_Torsion 0) (gs_curve_Torsion.length + 0) (memAt gs_curve_Torsion 0 ++ (unc gs_curve_Torsion.length (Ag.mk ((.one (.int .i64))) x)).2) (fun i => lkL i (ls_curve_Torsion)) 100 Tryz.f11 (unc gs_curve_Torsion.length (Ag.mk ((.one (.int .i64))) x)).1 none (Pt.get ((.agg (.one (.agg (.cons (.ints .u64 5) (.cons (.ints .u64 5) (.cons (.ints .u64 5) (.one (.ints .u64 5)))))))))) = curve_Torsion x := by
  intro x; kernel_rfl
theorem s_curve_Torsion {w0 : World}  (hg : GlobOK Tryz.prog w0 gs_curve_Torsion) : SoundAt Tryz.prog w0 11 ct_curve_Torsion := by
  have hcs : ∀ x ∈ cs_curve_Torsion, SoundAt Tryz.prog w0 x.1 x.2 := by
    intro x hx
    simp [cs_curve_Torsion] at hx
  exact fn_printed hcs hg Tryz.func11 (by kernel_rfl) (by kernel_rfl) (S := 0) (fun w _ => loopsOK_nil _) (fun _ => rfl) (r_curve_Torsion)
theorem k_curve_Torsion {w0 : World}  (hg_curve_Torsion : GlobOK Tryz.prog w0 gs_curve_Torsion) : SoundAt Tryz.prog w0 11 ct_curve_Torsion :=
  s_curve_Torsion hg_curve_Torsion

def ct_group_pick : Ct := tct (.one .bool) (.int .i64) fun x => group_pick x
def cs_group_pick : List (FuncId × Ct) := []
def gs_group_pick : List Gv := []
noncomputable def ls_group_pick : List (Nat × Lf) := []
theorem r_group_pick : ∀ x, run Tryz.prog (fun g => lkG g (cs_group_pick)) (glAt gs_group_pick 0) (gs_group_pick.length + 0) (memAt gs_group_pick 0 ++ (unc gs_group_pick.length (Ag.mk ((.one .bool)) x)).2) (fun i => lkL i (ls_group_pick)) 100 Tryz.f54 (unc gs_group_pick.length (Ag.mk ((.one .bool)) x)).1 none (Pt.get ((.int .i64))) = group_pick_o x := by
  intro x; kernel_rfl
theorem s_group_pick {w0 : World}  : SoundAt Tryz.prog w0 54 ct_group_pick := by
  have hcs : ∀ x ∈ cs_group_pick, SoundAt Tryz.prog w0 x.1 x.2 := by
    intro x hx
    simp [cs_group_pick] at hx
  exact sound_tct (fn_printed hcs (glob_nil _ _) Tryz.func54 (by kernel_rfl) (by kernel_rfl) (S := 0) (fun w _ => loopsOK_nil _) (fun _ => rfl) (r_group_pick)) fun _ _ => group_pick_tot _
theorem k_group_pick {w0 : World}  : SoundAt Tryz.prog w0 54 ct_group_pick :=
  s_group_pick

def ct_group_MapHalf (N : Nat) : Ct := fct (.one (.ints .u64 5)) (.agg (.one (.agg (.one (.agg (.cons (.ints .u64 5) (.cons (.ints .u64 5) (.cons (.ints .u64 5) (.one (.ints .u64 5)))))))))) fun x => group_MapHalf N x
def cs_group_MapHalf (N : Nat) : List (FuncId × Ct) := [(35, ct_field_Elem_Sub), (36, ct_field_Elem_Mul), (37, ct_field_Elem_Add), (51, ct_field_Elem_One), (52, (ct_field_SqrtRatio N)), (53, ct_field_Elem_Square), (54, ct_group_pick), (56, ct_field_Const), (57, ct_field_Select), (58, ct_field_Elem_Neg), (59, ct_field_Elem_Abs), (76, (ct_field_Elem_Invert N)), (77, ct_curve_FromAffine)]
def gs_group_MapHalf : List Gv := []
noncomputable def ls_group_MapHalf (N : Nat) : List (Nat × Lf) := []
theorem r_group_MapHalf (N : Nat) : ∀ x, run Tryz.prog (fun g => lkG g (cs_group_MapHalf N)) (glAt gs_group_MapHalf 0) (gs_group_MapHalf.length + 0) (memAt gs_group_MapHalf 0 ++ (unc gs_group_MapHalf.length (Ag.mk ((.one (.ints .u64 5))) x)).2) (fun i => lkL i (ls_group_MapHalf N)) 100 Tryz.f18 (unc gs_group_MapHalf.length (Ag.mk ((.one (.ints .u64 5))) x)).1 none (Pt.get ((.agg (.one (.agg (.one (.agg (.cons (.ints .u64 5) (.cons (.ints .u64 5) (.cons (.ints .u64 5) (.one (.ints .u64 5)))))))))))) = group_MapHalf N x := by
  intro x; kernel_rfl
theorem s_group_MapHalf {w0 : World} (N : Nat)  (h35 : SoundAt Tryz.prog w0 35 ct_field_Elem_Sub) (h36 : SoundAt Tryz.prog w0 36 ct_field_Elem_Mul) (h37 : SoundAt Tryz.prog w0 37 ct_field_Elem_Add) (h51 : SoundAt Tryz.prog w0 51 ct_field_Elem_One) (h52 : SoundAt Tryz.prog w0 52 (ct_field_SqrtRatio N)) (h53 : SoundAt Tryz.prog w0 53 ct_field_Elem_Square) (h54 : SoundAt Tryz.prog w0 54 ct_group_pick) (h56 : SoundAt Tryz.prog w0 56 ct_field_Const) (h57 : SoundAt Tryz.prog w0 57 ct_field_Select) (h58 : SoundAt Tryz.prog w0 58 ct_field_Elem_Neg) (h59 : SoundAt Tryz.prog w0 59 ct_field_Elem_Abs) (h76 : SoundAt Tryz.prog w0 76 (ct_field_Elem_Invert N)) (h77 : SoundAt Tryz.prog w0 77 ct_curve_FromAffine) : SoundAt Tryz.prog w0 18 (ct_group_MapHalf N) := by
  have hcs : ∀ x ∈ cs_group_MapHalf N, SoundAt Tryz.prog w0 x.1 x.2 := by
    intro x hx
    simp only [cs_group_MapHalf, List.mem_cons, List.not_mem_nil, or_false] at hx
    rcases hx with rfl | rfl | rfl | rfl | rfl | rfl | rfl | rfl | rfl | rfl | rfl | rfl | rfl
    · exact h35
    · exact h36
    · exact h37
    · exact h51
    · exact h52
    · exact h53
    · exact h54
    · exact h56
    · exact h57
    · exact h58
    · exact h59
    · exact h76
    · exact h77
  exact fn_printed hcs (glob_nil _ _) Tryz.func18 (by kernel_rfl) (by kernel_rfl) (S := 0) (fun w _ => loopsOK_nil _) (fun _ => rfl) (r_group_MapHalf N)
theorem k_group_MapHalf {w0 : World} (N : Nat)  (hg_field_SqrtRatio : GlobOK Tryz.prog w0 gs_field_SqrtRatio) (hg_field_Const : GlobOK Tryz.prog w0 gs_field_Const) (hg_curve_at : GlobOK Tryz.prog w0 gs_curve_at) (hg_curve_FromAffine : GlobOK Tryz.prog w0 gs_curve_FromAffine) : SoundAt Tryz.prog w0 18 (ct_group_MapHalf N) :=
  s_group_MapHalf N (k_field_Elem_Sub) (k_field_Elem_Mul) (k_field_Elem_Add) (k_field_Elem_One) (k_field_SqrtRatio N hg_field_SqrtRatio) (k_field_Elem_Square) (k_group_pick) (k_field_Const hg_field_Const) (k_field_Select) (k_field_Elem_Neg) (k_field_Elem_Abs) (k_field_Elem_Invert N) (k_curve_FromAffine hg_field_Const hg_curve_at hg_curve_FromAffine)

def ct_group_Point_Add : Ct := fct (.cons (.agg (.one (.agg (.one (.agg (.cons (.ints .u64 5) (.cons (.ints .u64 5) (.cons (.ints .u64 5) (.one (.ints .u64 5)))))))))) (.one (.agg (.one (.agg (.one (.agg (.cons (.ints .u64 5) (.cons (.ints .u64 5) (.cons (.ints .u64 5) (.one (.ints .u64 5)))))))))))) (.agg (.one (.agg (.one (.agg (.cons (.ints .u64 5) (.cons (.ints .u64 5) (.cons (.ints .u64 5) (.one (.ints .u64 5)))))))))) fun x => group_Point_Add x.1 x.2
def cs_group_Point_Add : List (FuncId × Ct) := [(10, ct_curve_Point_Add)]
def gs_group_Point_Add : List Gv := []
noncomputable def ls_group_Point_Add : List (Nat × Lf) := []
theorem r_group_Point_Add : ∀ x, run Tryz.prog (fun g => lkG g (cs_group_Point_Add)) (glAt gs_group_Point_Add 0) (gs_group_Point_Add.length + 0) (memAt gs_group_Point_Add 0 ++ (unc gs_group_Point_Add.length (Ag.mk ((.cons (.agg (.one (.agg (.one (.agg (.cons (.ints .u64 5) (.cons (.ints .u64 5) (.cons (.ints .u64 5) (.one (.ints .u64 5)))))))))) (.one (.agg (.one (.agg (.one (.agg (.cons (.ints .u64 5) (.cons (.ints .u64 5) (.cons (.ints .u64 5) (.one (.ints .u64 5))))))))))))) x)).2) (fun i => lkL i (ls_group_Point_Add)) 100 Tryz.f20 (unc gs_group_Point_Add.length (Ag.mk ((.cons (.agg (.one (.agg (.one (.agg (.cons (.ints .u64 5) (.cons (.ints .u64 5) (.cons (.ints .u64 5) (.one (.ints .u64 5)))))))))) (.one (.agg (.one (.agg (.one (.agg (.cons (.ints .u64 5) (.cons (.ints .u64 5) (.cons (.ints .u64 5) (.one (.ints .u64 5))))))))))))) x)).1 none (Pt.get ((.agg (.one (.agg (.one (.agg (.cons (.ints .u64 5) (.cons (.ints .u64 5) (.cons (.ints .u64 5) (.one (.ints .u64 5)))))))))))) = group_Point_Add x.1 x.2 := by
  intro x; kernel_rfl
theorem s_group_Point_Add {w0 : World}  (h10 : SoundAt Tryz.prog w0 10 ct_curve_Point_Add) : SoundAt Tryz.prog w0 20 ct_group_Point_Add := by
  have hcs : ∀ x ∈ cs_group_Point_Add, SoundAt Tryz.prog w0 x.1 x.2 := by
    intro x hx
    simp only [cs_group_Point_Add, List.mem_cons, List.not_mem_nil, or_false] at hx
    rcases hx with rfl
    · exact h10
  exact fn_printed hcs (glob_nil _ _) Tryz.func20 (by kernel_rfl) (by kernel_rfl) (S := 0) (fun w _ => loopsOK_nil _) (fun _ => rfl) (r_group_Point_Add)
theorem k_group_Point_Add {w0 : World}  (hg_curve_place_whole : GlobOK Tryz.prog w0 gs_curve_place_whole) (hg_curve_Point_Add : GlobOK Tryz.prog w0 gs_curve_Point_Add) : SoundAt Tryz.prog w0 20 ct_group_Point_Add :=
  s_group_Point_Add (k_curve_Point_Add hg_curve_place_whole hg_curve_Point_Add)

def ct_group_Map (N : Nat) : Ct := fct (.one (.ints .u8 64)) (.agg (.one (.agg (.one (.agg (.cons (.ints .u64 5) (.cons (.ints .u64 5) (.cons (.ints .u64 5) (.one (.ints .u64 5)))))))))) fun x => group_Map N x
def cs_group_Map (N : Nat) : List (FuncId × Ct) := [(18, (ct_group_MapHalf N)), (19, ct_field_Reduce), (20, ct_group_Point_Add)]
def gs_group_Map : List Gv := []
noncomputable def ls_group_Map (N : Nat) : List (Nat × Lf) := []
theorem r_group_Map (N : Nat) : ∀ x, run Tryz.prog (fun g => lkG g (cs_group_Map N)) (glAt gs_group_Map 0) (gs_group_Map.length + 0) (memAt gs_group_Map 0 ++ (unc gs_group_Map.length (Ag.mk ((.one (.ints .u8 64))) x)).2) (fun i => lkL i (ls_group_Map N)) 100 Tryz.f5 (unc gs_group_Map.length (Ag.mk ((.one (.ints .u8 64))) x)).1 none (Pt.get ((.agg (.one (.agg (.one (.agg (.cons (.ints .u64 5) (.cons (.ints .u64 5) (.cons (.ints .u64 5) (.one (.ints .u64 5)))))))))))) = group_Map N x := by
  intro x; kernel_rfl
theorem s_group_Map {w0 : World} (N : Nat)  (h18 : SoundAt Tryz.prog w0 18 (ct_group_MapHalf N)) (h19 : SoundAt Tryz.prog w0 19 ct_field_Reduce) (h20 : SoundAt Tryz.prog w0 20 ct_group_Point_Add) : SoundAt Tryz.prog w0 5 (ct_group_Map N) := by
  have hcs : ∀ x ∈ cs_group_Map N, SoundAt Tryz.prog w0 x.1 x.2 := by
    intro x hx
    simp only [cs_group_Map, List.mem_cons, List.not_mem_nil, or_false] at hx
    rcases hx with rfl | rfl | rfl
    · exact h18
    · exact h19
    · exact h20
  exact fn_printed hcs (glob_nil _ _) Tryz.func5 (by kernel_rfl) (by kernel_rfl) (S := 0) (fun w _ => loopsOK_nil _) (fun _ => rfl) (r_group_Map N)
theorem k_group_Map {w0 : World} (N : Nat)  (hg_field_SqrtRatio : GlobOK Tryz.prog w0 gs_field_SqrtRatio) (hg_field_Const : GlobOK Tryz.prog w0 gs_field_Const) (hg_curve_at : GlobOK Tryz.prog w0 gs_curve_at) (hg_curve_FromAffine : GlobOK Tryz.prog w0 gs_curve_FromAffine) (hg_curve_place_whole : GlobOK Tryz.prog w0 gs_curve_place_whole) (hg_curve_Point_Add : GlobOK Tryz.prog w0 gs_curve_Point_Add) : SoundAt Tryz.prog w0 5 (ct_group_Map N) :=
  s_group_Map N (k_group_MapHalf N hg_field_SqrtRatio hg_field_Const hg_curve_at hg_curve_FromAffine) (k_field_Reduce) (k_group_Point_Add hg_curve_place_whole hg_curve_Point_Add)

def ct_group_Point_Same : Ct := fct (.cons (.agg (.one (.agg (.one (.agg (.cons (.ints .u64 5) (.cons (.ints .u64 5) (.cons (.ints .u64 5) (.one (.ints .u64 5)))))))))) (.one (.agg (.one (.agg (.one (.agg (.cons (.ints .u64 5) (.cons (.ints .u64 5) (.cons (.ints .u64 5) (.one (.ints .u64 5)))))))))))) .bool fun x => group_Point_Same x.1 x.2
def cs_group_Point_Same : List (FuncId × Ct) := [(32, ct_curve_Point_Double), (41, ct_curve_Point_Sub), (42, ct_curve_Point_Same)]
def gs_group_Point_Same : List Gv := []
noncomputable def ls_group_Point_Same : List (Nat × Lf) := []
theorem r_group_Point_Same : ∀ x, run Tryz.prog (fun g => lkG g (cs_group_Point_Same)) (glAt gs_group_Point_Same 0) (gs_group_Point_Same.length + 0) (memAt gs_group_Point_Same 0 ++ (unc gs_group_Point_Same.length (Ag.mk ((.cons (.agg (.one (.agg (.one (.agg (.cons (.ints .u64 5) (.cons (.ints .u64 5) (.cons (.ints .u64 5) (.one (.ints .u64 5)))))))))) (.one (.agg (.one (.agg (.one (.agg (.cons (.ints .u64 5) (.cons (.ints .u64 5) (.cons (.ints .u64 5) (.one (.ints .u64 5))))))))))))) x)).2) (fun i => lkL i (ls_group_Point_Same)) 100 Tryz.f13 (unc gs_group_Point_Same.length (Ag.mk ((.cons (.agg (.one (.agg (.one (.agg (.cons (.ints .u64 5) (.cons (.ints .u64 5) (.cons (.ints .u64 5) (.one (.ints .u64 5)))))))))) (.one (.agg (.one (.agg (.one (.agg (.cons (.ints .u64 5) (.cons (.ints .u64 5) (.cons (.ints .u64 5) (.one (.ints .u64 5))))))))))))) x)).1 none (Pt.get (.bool)) = group_Point_Same x.1 x.2 := by
  intro x; kernel_rfl
theorem s_group_Point_Same {w0 : World}  (h32 : SoundAt Tryz.prog w0 32 ct_curve_Point_Double) (h41 : SoundAt Tryz.prog w0 41 ct_curve_Point_Sub) (h42 : SoundAt Tryz.prog w0 42 ct_curve_Point_Same) : SoundAt Tryz.prog w0 13 ct_group_Point_Same := by
  have hcs : ∀ x ∈ cs_group_Point_Same, SoundAt Tryz.prog w0 x.1 x.2 := by
    intro x hx
    simp only [cs_group_Point_Same, List.mem_cons, List.not_mem_nil, or_false] at hx
    rcases hx with rfl | rfl | rfl
    · exact h32
    · exact h41
    · exact h42
  exact fn_printed hcs (glob_nil _ _) Tryz.func13 (by kernel_rfl) (by kernel_rfl) (S := 0) (fun w _ => loopsOK_nil _) (fun _ => rfl) (r_group_Point_Same)
theorem k_group_Point_Same {w0 : World}  (hg_curve_place_whole : GlobOK Tryz.prog w0 gs_curve_place_whole) (hg_curve_Point_Add : GlobOK Tryz.prog w0 gs_curve_Point_Add) : SoundAt Tryz.prog w0 13 ct_group_Point_Same :=
  s_group_Point_Same (k_curve_Point_Double hg_curve_place_whole) (k_curve_Point_Sub hg_curve_place_whole hg_curve_Point_Add) (k_curve_Point_Same hg_curve_place_whole)

def ct_veilref01_below : Ct := tct (.cons (.ints .i64 10) (.one (.ints .i64 10))) .bool fun x => veilref01_below x.1 x.2
def cs_veilref01_below : List (FuncId × Ct) := []
def gs_veilref01_below : List Gv := []
noncomputable def ls_veilref01_below : List (Nat × Lf) := []
theorem r_veilref01_below : ∀ x, run Tryz.prog (fun g => lkG g (cs_veilref01_below)) (glAt gs_veilref01_below 0) (gs_veilref01_below.length + 0) (memAt gs_veilref01_below 0 ++ (unc gs_veilref01_below.length (Ag.mk ((.cons (.ints .i64 10) (.one (.ints .i64 10)))) x)).2) (fun i => lkL i (ls_veilref01_below)) 100 Tryz.f142 (unc gs_veilref01_below.length (Ag.mk ((.cons (.ints .i64 10) (.one (.ints .i64 10)))) x)).1 none (Pt.get (.bool)) = veilref01_below_o x.1 x.2 := by
  intro x; kernel_rfl
theorem s_veilref01_below {w0 : World}  : SoundAt Tryz.prog w0 142 ct_veilref01_below := by
  have hcs : ∀ x ∈ cs_veilref01_below, SoundAt Tryz.prog w0 x.1 x.2 := by
    intro x hx
    simp [cs_veilref01_below] at hx
  exact sound_tct (fn_printed hcs (glob_nil _ _) Tryz.func142 (by kernel_rfl) (by kernel_rfl) (S := 0) (fun w _ => loopsOK_nil _) (fun _ => rfl) (r_veilref01_below)) fun _ _ => veilref01_below_tot _ _
theorem k_veilref01_below {w0 : World}  : SoundAt Tryz.prog w0 142 ct_veilref01_below :=
  s_veilref01_below

def ct_veilref01_minus : Ct := tct (.cons (.ints .i64 10) (.one (.ints .i64 10))) (.ints .i64 10) fun x => veilref01_minus x.1 x.2
def cs_veilref01_minus : List (FuncId × Ct) := []
def gs_veilref01_minus : List Gv := []
noncomputable def ls_veilref01_minus : List (Nat × Lf) := []
theorem r_veilref01_minus : ∀ x, run Tryz.prog (fun g => lkG g (cs_veilref01_minus)) (glAt gs_veilref01_minus 0) (gs_veilref01_minus.length + 0) (memAt gs_veilref01_minus 0 ++ (unc gs_veilref01_minus.length (Ag.mk ((.cons (.ints .i64 10) (.one (.ints .i64 10)))) x)).2) (fun i => lkL i (ls_veilref01_minus)) 100 Tryz.f124 (unc gs_veilref01_minus.length (Ag.mk ((.cons (.ints .i64 10) (.one (.ints .i64 10)))) x)).1 none (Pt.get ((.ints .i64 10))) = some (veilref01_minus x.1 x.2) := by
  intro x; kernel_rfl
theorem s_veilref01_minus {w0 : World}  : SoundAt Tryz.prog w0 124 ct_veilref01_minus := by
  have hcs : ∀ x ∈ cs_veilref01_minus, SoundAt Tryz.prog w0 x.1 x.2 := by
    intro x hx
    simp [cs_veilref01_minus] at hx
  exact sound_tct (fn_printed hcs (glob_nil _ _) Tryz.func124 (by kernel_rfl) (by kernel_rfl) (S := 0) (fun w _ => loopsOK_nil _) (fun _ => rfl) (r_veilref01_minus)) fun _ _ => rfl
theorem k_veilref01_minus {w0 : World}  : SoundAt Tryz.prog w0 124 ct_veilref01_minus :=
  s_veilref01_minus

def ct_veilref01_least (N : Nat) : Ct := fct (.one (.ints .i64 20)) (.ints .i64 10) fun x => veilref01_least N x
def cs_veilref01_least (N : Nat) : List (FuncId × Ct) := [(124, ct_veilref01_minus), (142, ct_veilref01_below)]
def gs_veilref01_least : List Gv := [⟨7, 35, (.ints .i64 10 [67108845, 67108863, 67108863, 67108863, 67108863, 67108863, 67108863, 67108863, 67108863, 2097151])⟩]
def veilref01_least_l4_H : Fm ((Unit × Int × Unit × Bool)) ((Unit × Unit × List Int)) := ⟨(.cons 2 (.lit (.ptr 2 [] 35)) (.cons 3 (.int .i64) (.cons 5 (.lit (.ptr 387 [] 35)) (.one 7 .bool)))), (.cons 0 (.lit (.ints .i64 10 [67108845, 67108863, 67108863, 67108863, 67108863, 67108863, 67108863, 67108863, 67108863, 2097151])) (.cons 2 (.lit (.ints .i64 10 [0, 0, 0, 0, 0, 0, 0, 0, 0, 0])) (.one 387 (.ints .i64 10))))⟩
def veilref01_least_l4_O : Fm ((Unit × Unit)) ((Unit × Unit × List Int)) := ⟨(.cons 2 (.lit (.ptr 2 [] 35)) (.one 5 (.lit (.ptr 387 [] 35)))), (.cons 0 (.lit (.ints .i64 10 [67108845, 67108863, 67108863, 67108863, 67108863, 67108863, 67108863, 67108863, 67108863, 2097151])) (.cons 2 (.lit (.ints .i64 10 [0, 0, 0, 0, 0, 0, 0, 0, 0, 0])) (.one 387 (.ints .i64 10))))⟩
def veilref01_least_l4_T : Fm (Unit) (Unit) := ⟨.nil, .nil⟩
noncomputable def ls_veilref01_least (N : Nat) : List (Nat × Lf) := [(4, loopCt veilref01_least_l4_H veilref01_least_l4_O veilref01_least_l4_T 563 (veilref01_least_l4 N) N)]
theorem veilref01_least_l4_step (N : Nat) : ∀ v, exec Tryz.prog (cxOf Tryz.f104 (cs_veilref01_least N) gs_veilref01_least 0) (fun i => lkL i (ls_veilref01_least N)) 100 none (loopBody Tryz.f104 4) (veilref01_least_l4_H.st 563 v) (rdEnd veilref01_least_l4_H veilref01_least_l4_O veilref01_least_l4_T 563 4) = veilref01_least_l4 N v := by
  intro v; kernel_rfl
theorem r_veilref01_least (N : Nat) : ∀ x, run Tryz.prog (fun g => lkG g (cs_veilref01_least N)) (glAt gs_veilref01_least 0) (gs_veilref01_least.length + 0) (memAt gs_veilref01_least 0 ++ (unc gs_veilref01_least.length (Ag.mk ((.one (.ints .i64 20))) x)).2) (fun i => lkL i (ls_veilref01_least N)) 100 Tryz.f104 (unc gs_veilref01_least.length (Ag.mk ((.one (.ints .i64 20))) x)).1 none (Pt.get ((.ints .i64 10))) = veilref01_least N x := by
  intro x; kernel_rfl
theorem s_veilref01_least {w0 : World} (N : Nat)  (h124 : SoundAt Tryz.prog w0 124 ct_veilref01_minus) (h142 : SoundAt Tryz.prog w0 142 ct_veilref01_below) (hg : GlobOK Tryz.prog w0 gs_veilref01_least) : SoundAt Tryz.prog w0 104 (ct_veilref01_least N) := by
  have hcs : ∀ x ∈ cs_veilref01_least N, SoundAt Tryz.prog w0 x.1 x.2 := by
    intro x hx
    simp only [cs_veilref01_least, List.mem_cons, List.not_mem_nil, or_false] at hx
    rcases hx with rfl | rfl
    · exact h124
    · exact h142
  have L4 : ∀ w, RowKit.Below w0.heap.size w0 w → LoopOK Tryz.prog (cxOf Tryz.f104 (cs_veilref01_least N) gs_veilref01_least 0) w 4 (.loop (loopBody Tryz.f104 4)) (loopCt veilref01_least_l4_H veilref01_least_l4_O veilref01_least_l4_T 563 (veilref01_least_l4 N) N) :=
    loop_printed hcs (ls := ls_veilref01_least N) (n := 100) (by kernel_rfl) (veilref01_least_l4_step N) N fun w hw => loopsOK_list (by
      intro x hx
      simp only [ls_veilref01_least, List.mem_cons, List.not_mem_nil, or_false] at hx
      rcases hx with rfl
      · exact .inl (by kernel_rfl)
    )
  exact fn_printed hcs hg Tryz.func104 (by kernel_rfl) (by kernel_rfl) (S := 0) (fun w hw => loopsOK_list (by
    intro x hx
    simp only [ls_veilref01_least, List.mem_cons, List.not_mem_nil, or_false] at hx
    rcases hx with rfl
    · exact .inr ⟨_, by kernel_rfl, L4 w hw⟩
  )) (fun _ => rfl) (r_veilref01_least N)
theorem k_veilref01_least {w0 : World} (N : Nat)  (hg_veilref01_least : GlobOK Tryz.prog w0 gs_veilref01_least) : SoundAt Tryz.prog w0 104 (ct_veilref01_least N) :=
  s_veilref01_least N (k_veilref01_minus) (k_veilref01_below) hg_veilref01_least

def ct_veilref01_F_Add (N : Nat) : Ct := fct (.cons (.ints .i64 10) (.one (.ints .i64 10))) (.ints .i64 10) fun x => veilref01_F_Add N x.1 x.2
def cs_veilref01_F_Add (N : Nat) : List (FuncId × Ct) := [(104, (ct_veilref01_least N))]
def gs_veilref01_F_Add : List Gv := []
noncomputable def ls_veilref01_F_Add (N : Nat) : List (Nat × Lf) := []
theorem r_veilref01_F_Add (N : Nat) : ∀ x, run Tryz.prog (fun g => lkG g (cs_veilref01_F_Add N)) (glAt gs_veilref01_F_Add 0) (gs_veilref01_F_Add.length + 0) (memAt gs_veilref01_F_Add 0 ++ (unc gs_veilref01_F_Add.length (Ag.mk ((.cons (.ints .i64 10) (.one (.ints .i64 10)))) x)).2) (fun i => lkL i (ls_veilref01_F_Add N)) 100 Tryz.f47 (unc gs_veilref01_F_Add.length (Ag.mk ((.cons (.ints .i64 10) (.one (.ints .i64 10)))) x)).1 none (Pt.get ((.ints .i64 10))) = veilref01_F_Add N x.1 x.2 := by
  intro x; kernel_rfl
theorem s_veilref01_F_Add {w0 : World} (N : Nat)  (h104 : SoundAt Tryz.prog w0 104 (ct_veilref01_least N)) : SoundAt Tryz.prog w0 47 (ct_veilref01_F_Add N) := by
  have hcs : ∀ x ∈ cs_veilref01_F_Add N, SoundAt Tryz.prog w0 x.1 x.2 := by
    intro x hx
    simp only [cs_veilref01_F_Add, List.mem_cons, List.not_mem_nil, or_false] at hx
    rcases hx with rfl
    · exact h104
  exact fn_printed hcs (glob_nil _ _) Tryz.func47 (by kernel_rfl) (by kernel_rfl) (S := 0) (fun w _ => loopsOK_nil _) (fun _ => rfl) (r_veilref01_F_Add N)
theorem k_veilref01_F_Add {w0 : World} (N : Nat)  (hg_veilref01_least : GlobOK Tryz.prog w0 gs_veilref01_least) : SoundAt Tryz.prog w0 47 (ct_veilref01_F_Add N) :=
  s_veilref01_F_Add N (k_veilref01_least N hg_veilref01_least)

def ct_veilref01_F_Neg : Ct := tct (.one (.ints .i64 10)) (.ints .i64 10) fun x => veilref01_F_Neg x
def cs_veilref01_F_Neg : List (FuncId × Ct) := [(124, ct_veilref01_minus)]
def gs_veilref01_F_Neg : List Gv := [⟨5, 35, (.ints .i64 10 [0, 0, 0, 0, 0, 0, 0, 0, 0, 0])⟩, ⟨7, 35, (.ints .i64 10 [67108845, 67108863, 67108863, 67108863, 67108863, 67108863, 67108863, 67108863, 67108863, 2097151])⟩]
noncomputable def ls_veilref01_F_Neg : List (Nat × Lf) := []
theorem r_veilref01_F_Neg : ∀ x, run Tryz.prog (fun g => lkG g (cs_veilref01_F_Neg)) (glAt gs_veilref01_F_Neg 0) (gs_veilref01_F_Neg.length + 0) (memAt gs_veilref01_F_Neg 0 ++ (unc gs_veilref01_F_Neg.length (Ag.mk ((.one (.ints .i64 10))) x)).2) (fun i => lkL i (ls_veilref01_F_Neg)) 100 Tryz.f83 (unc gs_veilref01_F_Neg.length (Ag.mk ((.one (.ints .i64 10))) x)).1 none (Pt.get ((.ints .i64 10))) = veilref01_F_Neg_o x := by
  intro x; kernel_rfl
theorem s_veilref01_F_Neg {w0 : World}  (h124 : SoundAt Tryz.prog w0 124 ct_veilref01_minus) (hg : GlobOK Tryz.prog w0 gs_veilref01_F_Neg) : SoundAt Tryz.prog w0 83 ct_veilref01_F_Neg := by
  have hcs : ∀ x ∈ cs_veilref01_F_Neg, SoundAt Tryz.prog w0 x.1 x.2 := by
    intro x hx
    simp only [cs_veilref01_F_Neg, List.mem_cons, List.not_mem_nil, or_false] at hx
    rcases hx with rfl
    · exact h124
  exact sound_tct (fn_printed hcs hg Tryz.func83 (by kernel_rfl) (by kernel_rfl) (S := 0) (fun w _ => loopsOK_nil _) (fun _ => rfl) (r_veilref01_F_Neg)) fun _ _ => veilref01_F_Neg_tot _
theorem k_veilref01_F_Neg {w0 : World}  (hg_veilref01_F_Neg : GlobOK Tryz.prog w0 gs_veilref01_F_Neg) : SoundAt Tryz.prog w0 83 ct_veilref01_F_Neg :=
  s_veilref01_F_Neg (k_veilref01_minus) hg_veilref01_F_Neg

def ct_veilref01_F_Sub (N : Nat) : Ct := fct (.cons (.ints .i64 10) (.one (.ints .i64 10))) (.ints .i64 10) fun x => veilref01_F_Sub N x.1 x.2
def cs_veilref01_F_Sub (N : Nat) : List (FuncId × Ct) := [(47, (ct_veilref01_F_Add N)), (83, ct_veilref01_F_Neg)]
def gs_veilref01_F_Sub : List Gv := []
noncomputable def ls_veilref01_F_Sub (N : Nat) : List (Nat × Lf) := []
theorem r_veilref01_F_Sub (N : Nat) : ∀ x, run Tryz.prog (fun g => lkG g (cs_veilref01_F_Sub N)) (glAt gs_veilref01_F_Sub 0) (gs_veilref01_F_Sub.length + 0) (memAt gs_veilref01_F_Sub 0 ++ (unc gs_veilref01_F_Sub.length (Ag.mk ((.cons (.ints .i64 10) (.one (.ints .i64 10)))) x)).2) (fun i => lkL i (ls_veilref01_F_Sub N)) 100 Tryz.f46 (unc gs_veilref01_F_Sub.length (Ag.mk ((.cons (.ints .i64 10) (.one (.ints .i64 10)))) x)).1 none (Pt.get ((.ints .i64 10))) = veilref01_F_Sub N x.1 x.2 := by
  intro x; kernel_rfl
theorem s_veilref01_F_Sub {w0 : World} (N : Nat)  (h47 : SoundAt Tryz.prog w0 47 (ct_veilref01_F_Add N)) (h83 : SoundAt Tryz.prog w0 83 ct_veilref01_F_Neg) : SoundAt Tryz.prog w0 46 (ct_veilref01_F_Sub N) := by
  have hcs : ∀ x ∈ cs_veilref01_F_Sub N, SoundAt Tryz.prog w0 x.1 x.2 := by
    intro x hx
    simp only [cs_veilref01_F_Sub, List.mem_cons, List.not_mem_nil, or_false] at hx
    rcases hx with rfl | rfl
    · exact h47
    · exact h83
  exact fn_printed hcs (glob_nil _ _) Tryz.func46 (by kernel_rfl) (by kernel_rfl) (S := 0) (fun w _ => loopsOK_nil _) (fun _ => rfl) (r_veilref01_F_Sub N)
theorem k_veilref01_F_Sub {w0 : World} (N : Nat)  (hg_veilref01_least : GlobOK Tryz.prog w0 gs_veilref01_least) (hg_veilref01_F_Neg : GlobOK Tryz.prog w0 gs_veilref01_F_Neg) : SoundAt Tryz.prog w0 46 (ct_veilref01_F_Sub N) :=
  s_veilref01_F_Sub N (k_veilref01_F_Add N hg_veilref01_least) (k_veilref01_F_Neg hg_veilref01_F_Neg)

def ct_veilref01_F_Mul (N : Nat) : Ct := fct (.cons (.ints .i64 10) (.one (.ints .i64 10))) (.ints .i64 10) fun x => veilref01_F_Mul N x.1 x.2
def cs_veilref01_F_Mul (N : Nat) : List (FuncId × Ct) := [(104, (ct_veilref01_least N))]
def gs_veilref01_F_Mul : List Gv := []
noncomputable def ls_veilref01_F_Mul (N : Nat) : List (Nat × Lf) := []
theorem r_veilref01_F_Mul (N : Nat) : ∀ x, run Tryz.prog (fun g => lkG g (cs_veilref01_F_Mul N)) (glAt gs_veilref01_F_Mul 0) (gs_veilref01_F_Mul.length + 0) (memAt gs_veilref01_F_Mul 0 ++ (unc gs_veilref01_F_Mul.length (Ag.mk ((.cons (.ints .i64 10) (.one (.ints .i64 10)))) x)).2) (fun i => lkL i (ls_veilref01_F_Mul N)) 100 Tryz.f82 (unc gs_veilref01_F_Mul.length (Ag.mk ((.cons (.ints .i64 10) (.one (.ints .i64 10)))) x)).1 none (Pt.get ((.ints .i64 10))) = veilref01_F_Mul N x.1 x.2 := by
  intro x; kernel_rfl
theorem s_veilref01_F_Mul {w0 : World} (N : Nat)  (h104 : SoundAt Tryz.prog w0 104 (ct_veilref01_least N)) : SoundAt Tryz.prog w0 82 (ct_veilref01_F_Mul N) := by
  have hcs : ∀ x ∈ cs_veilref01_F_Mul N, SoundAt Tryz.prog w0 x.1 x.2 := by
    intro x hx
    simp only [cs_veilref01_F_Mul, List.mem_cons, List.not_mem_nil, or_false] at hx
    rcases hx with rfl
    · exact h104
  exact fn_printed hcs (glob_nil _ _) Tryz.func82 (by kernel_rfl) (by kernel_rfl) (S := 0) (fun w _ => loopsOK_nil _) (fun _ => rfl) (r_veilref01_F_Mul N)
theorem k_veilref01_F_Mul {w0 : World} (N : Nat)  (hg_veilref01_least : GlobOK Tryz.prog w0 gs_veilref01_least) : SoundAt Tryz.prog w0 82 (ct_veilref01_F_Mul N) :=
  s_veilref01_F_Mul N (k_veilref01_least N hg_veilref01_least)

def ct_veilref01_F_ones (N : Nat) : Ct := fct (.cons (.ints .i64 10) (.one (.int .i64))) (.ints .i64 10) fun x => veilref01_F_ones N x.1 x.2
def ct_veilref01_F_ones_step (rec : List Int → Int → Option (List Int)) (N : Nat) : Ct := fct (.cons (.ints .i64 10) (.one (.int .i64))) (.ints .i64 10) fun x => veilref01_F_ones_step rec N x.1 x.2
def cs_veilref01_F_ones_step (rec : List Int → Int → Option (List Int)) (N : Nat) : List (FuncId × Ct) := [(82, (ct_veilref01_F_Mul N)), (125, (fct (.cons (.ints .i64 10) (.one (.int .i64))) (.ints .i64 10) fun x => rec x.1 x.2))]
def gs_veilref01_F_ones_step : List Gv := []
def veilref01_F_ones_l0_H : Fm ((Int × Unit × Unit × Unit × Unit × Int)) ((List Int × Unit × List Int × List Int)) := ⟨(.cons 1 (.int .i64) (.cons 2 (.lit (.ptr 0 [] 35)) (.cons 4 (.lit (.ptr 1 [] 35)) (.cons 5 (.lit (.ptr 8 [] 35)) (.cons 6 (.lit (.ptr 11 [] 35)) (.one 7 (.int .i64))))))), (.cons 0 (.ints .i64 10) (.cons 1 (.lit (.ints .i64 10 [0, 0, 0, 0, 0, 0, 0, 0, 0, 0])) (.cons 8 (.ints .i64 10) (.one 11 (.ints .i64 10)))))⟩
def veilref01_F_ones_l0_O : Fm ((Int × Unit × Unit × Unit × Unit)) ((List Int × Unit × List Int × List Int)) := ⟨(.cons 1 (.int .i64) (.cons 2 (.lit (.ptr 0 [] 35)) (.cons 4 (.lit (.ptr 1 [] 35)) (.cons 5 (.lit (.ptr 8 [] 35)) (.one 6 (.lit (.ptr 11 [] 35))))))), (.cons 0 (.ints .i64 10) (.cons 1 (.lit (.ints .i64 10 [0, 0, 0, 0, 0, 0, 0, 0, 0, 0])) (.cons 8 (.ints .i64 10) (.one 11 (.ints .i64 10)))))⟩
def veilref01_F_ones_l0_T : Fm (Unit) (Unit) := ⟨.nil, .nil⟩
noncomputable def ls_veilref01_F_ones_step (rec : List Int → Int → Option (List Int)) (N : Nat) : List (Nat × Lf) := [(0, loopCt veilref01_F_ones_l0_H veilref01_F_ones_l0_O veilref01_F_ones_l0_T 14 (veilref01_F_ones_l0 N) N)]
theorem veilref01_F_ones_l0_step (rec : List Int → Int → Option (List Int)) (N : Nat) : ∀ v, exec Tryz.prog (cxOf Tryz.f125 (cs_veilref01_F_ones_step rec N) gs_veilref01_F_ones_step 0) (fun i => lkL i (ls_veilref01_F_ones_step rec N)) 100 none (loopBody Tryz.f125 0) (veilref01_F_ones_l0_H.st 14 v) (rdEnd veilref01_F_ones_l0_H veilref01_F_ones_l0_O veilref01_F_ones_l0_T 14 0) = veilref01_F_ones_l0 N v := by
  intro v; kernel_rfl
theorem r_veilref01_F_ones_step (rec : List Int → Int → Option (List Int)) (N : Nat) : ∀ x, run Tryz.prog (fun g => lkG g (cs_veilref01_F_ones_step rec N)) (glAt gs_veilref01_F_ones_step 0) (gs_veilref01_F_ones_step.length + 0) (memAt gs_veilref01_F_ones_step 0 ++ (unc gs_veilref01_F_ones_step.length (Ag.mk ((.cons (.ints .i64 10) (.one (.int .i64)))) x)).2) (fun i => lkL i (ls_veilref01_F_ones_step rec N)) 100 Tryz.f125 (unc gs_veilref01_F_ones_step.length (Ag.mk ((.cons (.ints .i64 10) (.one (.int .i64)))) x)).1 none (Pt.get ((.ints .i64 10))) = veilref01_F_ones_step rec N x.1 x.2 := by
  intro x; kernel_rfl
theorem s_veilref01_F_ones_step {w0 : World} (rec : List Int → Int → Option (List Int)) (N : Nat)  (h82 : SoundAt Tryz.prog w0 82 (ct_veilref01_F_Mul N)) (h125 : SoundAt Tryz.prog w0 125 (fct (.cons (.ints .i64 10) (.one (.int .i64))) (.ints .i64 10) fun x => rec x.1 x.2)) : SoundAt Tryz.prog w0 125 (ct_veilref01_F_ones_step rec N) := by
  have hcs : ∀ x ∈ cs_veilref01_F_ones_step rec N, SoundAt Tryz.prog w0 x.1 x.2 := by
    intro x hx
    simp only [cs_veilref01_F_ones_step, List.mem_cons, List.not_mem_nil, or_false] at hx
    rcases hx with rfl | rfl
    · exact h82
    · exact h125
  have L0 : ∀ w, RowKit.Below w0.heap.size w0 w → LoopOK Tryz.prog (cxOf Tryz.f125 (cs_veilref01_F_ones_step rec N) gs_veilref01_F_ones_step 0) w 0 (.loop (loopBody Tryz.f125 0)) (loopCt veilref01_F_ones_l0_H veilref01_F_ones_l0_O veilref01_F_ones_l0_T 14 (veilref01_F_ones_l0 N) N) :=
    loop_printed hcs (ls := ls_veilref01_F_ones_step rec N) (n := 100) (by kernel_rfl) (veilref01_F_ones_l0_step rec N) N fun w hw => loopsOK_list (by
      intro x hx
      simp only [ls_veilref01_F_ones_step, List.mem_cons, List.not_mem_nil, or_false] at hx
      rcases hx with rfl
      · exact .inl (by kernel_rfl)
    )
  exact fn_printed hcs (glob_nil _ _) Tryz.func125 (by kernel_rfl) (by kernel_rfl) (S := 0) (fun w hw => loopsOK_list (by
    intro x hx
    simp only [ls_veilref01_F_ones_step, List.mem_cons, List.not_mem_nil, or_false] at hx
    rcases hx with rfl
    · exact .inr ⟨_, by kernel_rfl, L0 w hw⟩
  )) (fun _ => rfl) (r_veilref01_F_ones_step rec N)
theorem k_veilref01_F_ones {w0 : World} (N : Nat)  (hg_veilref01_least : GlobOK Tryz.prog w0 gs_veilref01_least) : SoundAt Tryz.prog w0 125 (ct_veilref01_F_ones N) := by
  have h : ∀ m, SoundAt Tryz.prog w0 125 (fct (.cons (.ints .i64 10) (.one (.int .i64))) (.ints .i64 10) fun x => veilref01_F_ones_go N m x.1 x.2) := by
    intro m
    induction m with
    | zero => exact sound_never
    | succ m ih => exact s_veilref01_F_ones_step (veilref01_F_ones_go N m) N (k_veilref01_F_Mul N hg_veilref01_least) ih
  exact h N

def ct_veilref01_F_Invert (N : Nat) : Ct := fct (.one (.ints .i64 10)) (.ints .i64 10) fun x => veilref01_F_Invert N x
def cs_veilref01_F_Invert (N : Nat) : List (FuncId × Ct) := [(82, (ct_veilref01_F_Mul N)), (125, (ct_veilref01_F_ones N))]
def gs_veilref01_F_Invert : List Gv := []
noncomputable def ls_veilref01_F_Invert (N : Nat) : List (Nat × Lf) := []
theorem r_veilref01_F_Invert (N : Nat) : ∀ x, run Tryz.prog (fun g => lkG g (cs_veilref01_F_Invert N)) (glAt gs_veilref01_F_Invert 0) (gs_veilref01_F_Invert.length + 0) (memAt gs_veilref01_F_Invert 0 ++ (unc gs_veilref01_F_Invert.length (Ag.mk ((.one (.ints .i64 10))) x)).2) (fun i => lkL i (ls_veilref01_F_Invert N)) 100 Tryz.f86 (unc gs_veilref01_F_Invert.length (Ag.mk ((.one (.ints .i64 10))) x)).1 none (Pt.get ((.ints .i64 10))) = veilref01_F_Invert N x := by
  intro x; kernel_rfl
theorem s_veilref01_F_Invert {w0 : World} (N : Nat)  (h82 : SoundAt Tryz.prog w0 82 (ct_veilref01_F_Mul N)) (h125 : SoundAt Tryz.prog w0 125 (ct_veilref01_F_ones N)) : SoundAt Tryz.prog w0 86 (ct_veilref01_F_Invert N) := by
  have hcs : ∀ x ∈ cs_veilref01_F_Invert N, SoundAt Tryz.prog w0 x.1 x.2 := by
    intro x hx
    simp only [cs_veilref01_F_Invert, List.mem_cons, List.not_mem_nil, or_false] at hx
    rcases hx with rfl | rfl
    · exact h82
    · exact h125
  exact fn_printed hcs (glob_nil _ _) Tryz.func86 (by kernel_rfl) (by kernel_rfl) (S := 0) (fun w _ => loopsOK_nil _) (fun _ => rfl) (r_veilref01_F_Invert N)
theorem k_veilref01_F_Invert {w0 : World} (N : Nat)  (hg_veilref01_least : GlobOK Tryz.prog w0 gs_veilref01_least) : SoundAt Tryz.prog w0 86 (ct_veilref01_F_Invert N) :=
  s_veilref01_F_Invert N (k_veilref01_F_Mul N hg_veilref01_least) (k_veilref01_F_ones N hg_veilref01_least)

def ct_veilref01_F_Negative : Ct := tct (.one (.ints .i64 10)) .bool fun x => veilref01_F_Negative x
def cs_veilref01_F_Negative : List (FuncId × Ct) := []
def gs_veilref01_F_Negative : List Gv := []
noncomputable def ls_veilref01_F_Negative : List (Nat × Lf) := []
theorem r_veilref01_F_Negative : ∀ x, run Tryz.prog (fun g => lkG g (cs_veilref01_F_Negative)) (glAt gs_veilref01_F_Negative 0) (gs_veilref01_F_Negative.length + 0) (memAt gs_veilref01_F_Negative 0 ++ (unc gs_veilref01_F_Negative.length (Ag.mk ((.one (.ints .i64 10))) x)).2) (fun i => lkL i (ls_veilref01_F_Negative)) 100 Tryz.f94 (unc gs_veilref01_F_Negative.length (Ag.mk ((.one (.ints .i64 10))) x)).1 none (Pt.get (.bool)) = some (veilref01_F_Negative x) := by
  intro x; kernel_rfl
theorem s_veilref01_F_Negative {w0 : World}  : SoundAt Tryz.prog w0 94 ct_veilref01_F_Negative := by
  have hcs : ∀ x ∈ cs_veilref01_F_Negative, SoundAt Tryz.prog w0 x.1 x.2 := by
    intro x hx
    simp [cs_veilref01_F_Negative] at hx
  exact sound_tct (fn_printed hcs (glob_nil _ _) Tryz.func94 (by kernel_rfl) (by kernel_rfl) (S := 0) (fun w _ => loopsOK_nil _) (fun _ => rfl) (r_veilref01_F_Negative)) fun _ _ => rfl
theorem k_veilref01_F_Negative {w0 : World}  : SoundAt Tryz.prog w0 94 ct_veilref01_F_Negative :=
  s_veilref01_F_Negative

def ct_veilref01_F_Abs : Ct := tct (.one (.ints .i64 10)) (.ints .i64 10) fun x => veilref01_F_Abs x
def cs_veilref01_F_Abs : List (FuncId × Ct) := [(83, ct_veilref01_F_Neg)]
def gs_veilref01_F_Abs : List Gv := []
noncomputable def ls_veilref01_F_Abs : List (Nat × Lf) := []
theorem r_veilref01_F_Abs : ∀ x, run Tryz.prog (fun g => lkG g (cs_veilref01_F_Abs)) (glAt gs_veilref01_F_Abs 0) (gs_veilref01_F_Abs.length + 0) (memAt gs_veilref01_F_Abs 0 ++ (unc gs_veilref01_F_Abs.length (Ag.mk ((.one (.ints .i64 10))) x)).2) (fun i => lkL i (ls_veilref01_F_Abs)) 100 Tryz.f84 (unc gs_veilref01_F_Abs.length (Ag.mk ((.one (.ints .i64 10))) x)).1 none (Pt.get ((.ints .i64 10))) = veilref01_F_Abs_o x := by
  intro x; kernel_rfl
theorem s_veilref01_F_Abs {w0 : World}  (h83 : SoundAt Tryz.prog w0 83 ct_veilref01_F_Neg) : SoundAt Tryz.prog w0 84 ct_veilref01_F_Abs := by
  have hcs : ∀ x ∈ cs_veilref01_F_Abs, SoundAt Tryz.prog w0 x.1 x.2 := by
    intro x hx
    simp only [cs_veilref01_F_Abs, List.mem_cons, List.not_mem_nil, or_false] at hx
    rcases hx with rfl
    · exact h83
  exact sound_tct (fn_printed hcs (glob_nil _ _) Tryz.func84 (by kernel_rfl) (by kernel_rfl) (S := 0) (fun w _ => loopsOK_nil _) (fun _ => rfl) (r_veilref01_F_Abs)) fun _ _ => veilref01_F_Abs_tot _
theorem k_veilref01_F_Abs {w0 : World}  (hg_veilref01_F_Neg : GlobOK Tryz.prog w0 gs_veilref01_F_Neg) : SoundAt Tryz.prog w0 84 ct_veilref01_F_Abs :=
  s_veilref01_F_Abs (k_veilref01_F_Neg hg_veilref01_F_Neg)

def ct_veilref01_I : Ct := tct .nil (.ints .i64 10) fun x => veilref01_I
def cs_veilref01_I : List (FuncId × Ct) := []
def gs_veilref01_I : List Gv := []
noncomputable def ls_veilref01_I : List (Nat × Lf) := []
theorem r_veilref01_I : ∀ x, run Tryz.prog (fun g => lkG g (cs_veilref01_I)) (glAt gs_veilref01_I 0) (gs_veilref01_I.length + 0) (memAt gs_veilref01_I 0 ++ (unc gs_veilref01_I.length (Ag.mk (.nil) x)).2) (fun i => lkL i (ls_veilref01_I)) 100 Tryz.f81 (unc gs_veilref01_I.length (Ag.mk (.nil) x)).1 none (Pt.get ((.ints .i64 10))) = some (veilref01_I) := by
  intro x; kernel_rfl
theorem s_veilref01_I {w0 : World}  : SoundAt Tryz.prog w0 81 ct_veilref01_I := by
  have hcs : ∀ x ∈ cs_veilref01_I, SoundAt Tryz.prog w0 x.1 x.2 := by
    intro x hx
    simp [cs_veilref01_I] at hx
  exact sound_tct (fn_printed hcs (glob_nil _ _) Tryz.func81 (by kernel_rfl) (by kernel_rfl) (S := 0) (fun w _ => loopsOK_nil _) (fun _ => rfl) (r_veilref01_I)) fun _ _ => rfl
theorem k_veilref01_I {w0 : World}  : SoundAt Tryz.prog w0 81 ct_veilref01_I :=
  s_veilref01_I

def ct_veilref01_D : Ct := tct .nil (.ints .i64 10) fun x => veilref01_D
def cs_veilref01_D : List (FuncId × Ct) := []
def gs_veilref01_D : List Gv := []
noncomputable def ls_veilref01_D : List (Nat × Lf) := []
theorem r_veilref01_D : ∀ x, run Tryz.prog (fun g => lkG g (cs_veilref01_D)) (glAt gs_veilref01_D 0) (gs_veilref01_D.length + 0) (memAt gs_veilref01_D 0 ++ (unc gs_veilref01_D.length (Ag.mk (.nil) x)).2) (fun i => lkL i (ls_veilref01_D)) 100 Tryz.f80 (unc gs_veilref01_D.length (Ag.mk (.nil) x)).1 none (Pt.get ((.ints .i64 10))) = some (veilref01_D) := by
  intro x; kernel_rfl
theorem s_veilref01_D {w0 : World}  : SoundAt Tryz.prog w0 80 ct_veilref01_D := by
  have hcs : ∀ x ∈ cs_veilref01_D, SoundAt Tryz.prog w0 x.1 x.2 := by
    intro x hx
    simp [cs_veilref01_D] at hx
  exact sound_tct (fn_printed hcs (glob_nil _ _) Tryz.func80 (by kernel_rfl) (by kernel_rfl) (S := 0) (fun w _ => loopsOK_nil _) (fun _ => rfl) (r_veilref01_D)) fun _ _ => rfl
theorem k_veilref01_D {w0 : World}  : SoundAt Tryz.prog w0 80 ct_veilref01_D :=
  s_veilref01_D

def ct_veilref01_root (N : Nat) : Ct := fct (.one (.ints .i64 10)) (.tup (.cons (.ints .i64 10) (.one .bool))) fun x => veilref01_root N x
def cs_veilref01_root (N : Nat) : List (FuncId × Ct) := [(81, ct_veilref01_I), (82, (ct_veilref01_F_Mul N)), (84, ct_veilref01_F_Abs), (125, (ct_veilref01_F_ones N))]
def gs_veilref01_root : List Gv := [⟨5, 35, (.ints .i64 10 [0, 0, 0, 0, 0, 0, 0, 0, 0, 0])⟩]
noncomputable def ls_veilref01_root (N : Nat) : List (Nat × Lf) := []
theorem r_veilref01_root (N : Nat) : ∀ x, run Tryz.prog (fun g => lkG g (cs_veilref01_root N)) (glAt gs_veilref01_root 0) (gs_veilref01_root.length + 0) (memAt gs_veilref01_root 0 ++ (unc gs_veilref01_root.length (Ag.mk ((.one (.ints .i64 10))) x)).2) (fun i => lkL i (ls_veilref01_root N)) 100 Tryz.f103 (unc gs_veilref01_root.length (Ag.mk ((.one (.ints .i64 10))) x)).1 none (Pt.get ((.tup (.cons (.ints .i64 10) (.one .bool))))) = veilref01_root N x := by
  intro x; kernel_rfl
theorem s_veilref01_root {w0 : World} (N : Nat)  (h81 : SoundAt Tryz.prog w0 81 ct_veilref01_I) (h82 : SoundAt Tryz.prog w0 82 (ct_veilref01_F_Mul N)) (h84 : SoundAt Tryz.prog w0 84 ct_veilref01_F_Abs) (h125 : SoundAt Tryz.prog w0 125 (ct_veilref01_F_ones N)) (hg : GlobOK Tryz.prog w0 gs_veilref01_root) : SoundAt Tryz.prog w0 103 (ct_veilref01_root N) := by
  have hcs : ∀ x ∈ cs_veilref01_root N, SoundAt Tryz.prog w0 x.1 x.2 := by
    intro x hx
    simp only [cs_veilref01_root, List.mem_cons, List.not_mem_nil, or_false] at hx
    rcases hx with rfl | rfl | rfl | rfl
    · exact h81
    · exact h82
    · exact h84
    · exact h125
  exact fn_printed hcs hg Tryz.func103 (by kernel_rfl) (by kernel_rfl) (S := 0) (fun w _ => loopsOK_nil _) (fun _ => rfl) (r_veilref01_root N)
theorem k_veilref01_root {w0 : World} (N : Nat)  (hg_veilref01_least : GlobOK Tryz.prog w0 gs_veilref01_least) (hg_veilref01_F_Neg : GlobOK Tryz.prog w0 gs_veilref01_F_Neg) (hg_veilref01_root : GlobOK Tryz.prog w0 gs_veilref01_root) : SoundAt Tryz.prog w0 103 (ct_veilref01_root N) :=
  s_veilref01_root N (k_veilref01_I) (k_veilref01_F_Mul N hg_veilref01_least) (k_veilref01_F_Abs hg_veilref01_F_Neg) (k_veilref01_F_ones N hg_veilref01_least) hg_veilref01_root

def ct_veilref01_SqrtRatio (N : Nat) : Ct := fct (.cons (.ints .i64 10) (.one (.ints .i64 10))) (.tup (.cons (.ints .i64 10) (.one .bool))) fun x => veilref01_SqrtRatio N x.1 x.2
def cs_veilref01_SqrtRatio (N : Nat) : List (FuncId × Ct) := [(81, ct_veilref01_I), (82, (ct_veilref01_F_Mul N)), (86, (ct_veilref01_F_Invert N)), (103, (ct_veilref01_root N))]
def gs_veilref01_SqrtRatio : List Gv := [⟨5, 35, (.ints .i64 10 [0, 0, 0, 0, 0, 0, 0, 0, 0, 0])⟩]
noncomputable def ls_veilref01_SqrtRatio (N : Nat) : List (Nat × Lf) := []
theorem r_veilref01_SqrtRatio (N : Nat) : ∀ x, run Tryz.prog (fun g => lkG g (cs_veilref01_SqrtRatio N)) (glAt gs_veilref01_SqrtRatio 0) (gs_veilref01_SqrtRatio.length + 0) (memAt gs_veilref01_SqrtRatio 0 ++ (unc gs_veilref01_SqrtRatio.length (Ag.mk ((.cons (.ints .i64 10) (.one (.ints .i64 10)))) x)).2) (fun i => lkL i (ls_veilref01_SqrtRatio N)) 100 Tryz.f45 (unc gs_veilref01_SqrtRatio.length (Ag.mk ((.cons (.ints .i64 10) (.one (.ints .i64 10)))) x)).1 none (Pt.get ((.tup (.cons (.ints .i64 10) (.one .bool))))) = veilref01_SqrtRatio N x.1 x.2 := by
  intro x; kernel_rfl
theorem s_veilref01_SqrtRatio {w0 : World} (N : Nat)  (h81 : SoundAt Tryz.prog w0 81 ct_veilref01_I) (h82 : SoundAt Tryz.prog w0 82 (ct_veilref01_F_Mul N)) (h86 : SoundAt Tryz.prog w0 86 (ct_veilref01_F_Invert N)) (h103 : SoundAt Tryz.prog w0 103 (ct_veilref01_root N)) (hg : GlobOK Tryz.prog w0 gs_veilref01_SqrtRatio) : SoundAt Tryz.prog w0 45 (ct_veilref01_SqrtRatio N) := by
  have hcs : ∀ x ∈ cs_veilref01_SqrtRatio N, SoundAt Tryz.prog w0 x.1 x.2 := by
    intro x hx
    simp only [cs_veilref01_SqrtRatio, List.mem_cons, List.not_mem_nil, or_false] at hx
    rcases hx with rfl | rfl | rfl | rfl
    · exact h81
    · exact h82
    · exact h86
    · exact h103
  exact fn_printed hcs hg Tryz.func45 (by kernel_rfl) (by kernel_rfl) (S := 0) (fun w _ => loopsOK_nil _) (fun _ => rfl) (r_veilref01_SqrtRatio N)
theorem k_veilref01_SqrtRatio {w0 : World} (N : Nat)  (hg_veilref01_least : GlobOK Tryz.prog w0 gs_veilref01_least) (hg_veilref01_F_Neg : GlobOK Tryz.prog w0 gs_veilref01_F_Neg) (hg_veilref01_root : GlobOK Tryz.prog w0 gs_veilref01_root) (hg_veilref01_SqrtRatio : GlobOK Tryz.prog w0 gs_veilref01_SqrtRatio) : SoundAt Tryz.prog w0 45 (ct_veilref01_SqrtRatio N) :=
  s_veilref01_SqrtRatio N (k_veilref01_I) (k_veilref01_F_Mul N hg_veilref01_least) (k_veilref01_F_Invert N hg_veilref01_least) (k_veilref01_root N hg_veilref01_least hg_veilref01_F_Neg hg_veilref01_root) hg_veilref01_SqrtRatio

def ct_veilref01_Const (N : Nat) : Ct := fct (.one (.int .i64)) (.ints .i64 10) fun x => veilref01_Const N x
def cs_veilref01_Const (N : Nat) : List (FuncId × Ct) := [(46, (ct_veilref01_F_Sub N)), (80, ct_veilref01_D), (81, ct_veilref01_I), (82, (ct_veilref01_F_Mul N)), (83, ct_veilref01_F_Neg), (84, ct_veilref01_F_Abs), (86, (ct_veilref01_F_Invert N)), (103, (ct_veilref01_root N))]
def gs_veilref01_Const : List Gv := [⟨5, 35, (.ints .i64 10 [0, 0, 0, 0, 0, 0, 0, 0, 0, 0])⟩, ⟨2, 35, (.ints .i64 10 [1, 0, 0, 0, 0, 0, 0, 0, 0, 0])⟩]
noncomputable def ls_veilref01_Const (N : Nat) : List (Nat × Lf) := []
theorem r_veilref01_Const (N : Nat) : ∀ x, run Tryz.prog (fun g => lkG g (cs_veilref01_Const N)) (glAt gs_veilref01_Const 0) (gs_veilref01_Const.length + 0) (memAt gs_veilref01_Const 0 ++ (unc gs_veilref01_Const.length (Ag.mk ((.one (.int .i64))) x)).2) (fun i => lkL i (ls_veilref01_Const N)) 100 Tryz.f85 (unc gs_veilref01_Const.length (Ag.mk ((.one (.int .i64))) x)).1 none (Pt.get ((.ints .i64 10))) = veilref01_Const N x := by
  intro x; kernel_rfl
theorem s_veilref01_Const {w0 : World} (N : Nat)  (h46 : SoundAt Tryz.prog w0 46 (ct_veilref01_F_Sub N)) (h80 : SoundAt Tryz.prog w0 80 ct_veilref01_D) (h81 : SoundAt Tryz.prog w0 81 ct_veilref01_I) (h82 : SoundAt Tryz.prog w0 82 (ct_veilref01_F_Mul N)) (h83 : SoundAt Tryz.prog w0 83 ct_veilref01_F_Neg) (h84 : SoundAt Tryz.prog w0 84 ct_veilref01_F_Abs) (h86 : SoundAt Tryz.prog w0 86 (ct_veilref01_F_Invert N)) (h103 : SoundAt Tryz.prog w0 103 (ct_veilref01_root N)) (hg : GlobOK Tryz.prog w0 gs_veilref01_Const) : SoundAt Tryz.prog w0 85 (ct_veilref01_Const N) := by
  have hcs : ∀ x ∈ cs_veilref01_Const N, SoundAt Tryz.prog w0 x.1 x.2 := by
    intro x hx
    simp only [cs_veilref01_Const, List.mem_cons, List.not_mem_nil, or_false] at hx
    rcases hx with rfl | rfl | rfl | rfl | rfl | rfl | rfl | rfl
    · exact h46
    · exact h80
    · exact h81
    · exact h82
    · exact h83
    · exact h84
    · exact h86
    · exact h103
  exact fn_printed hcs hg Tryz.func85 (by kernel_rfl) (by kernel_rfl) (S := 0) (fun w _ => loopsOK_nil _) (fun _ => rfl) (r_veilref01_Const N)
theorem k_veilref01_Const {w0 : World} (N : Nat)  (hg_veilref01_least : GlobOK Tryz.prog w0 gs_veilref01_least) (hg_veilref01_F_Neg : GlobOK Tryz.prog w0 gs_veilref01_F_Neg) (hg_veilref01_root : GlobOK Tryz.prog w0 gs_veilref01_root) (hg_veilref01_Const : GlobOK Tryz.prog w0 gs_veilref01_Const) : SoundAt Tryz.prog w0 85 (ct_veilref01_Const N) :=
  s_veilref01_Const N (k_veilref01_F_Sub N hg_veilref01_least hg_veilref01_F_Neg) (k_veilref01_D) (k_veilref01_I) (k_veilref01_F_Mul N hg_veilref01_least) (k_veilref01_F_Neg hg_veilref01_F_Neg) (k_veilref01_F_Abs hg_veilref01_F_Neg) (k_veilref01_F_Invert N hg_veilref01_least) (k_veilref01_root N hg_veilref01_least hg_veilref01_F_Neg hg_veilref01_root) hg_veilref01_Const

def ct_veilref01_F_Encode (N : Nat) : Ct := fct (.one (.ints .i64 10)) (.ints .u8 32) fun x => veilref01_F_Encode N x
def cs_veilref01_F_Encode (N : Nat) : List (FuncId × Ct) := []
def gs_veilref01_F_Encode : List Gv := []
def veilref01_F_Encode_l0_H : Fm ((Unit × Unit × Unit × Int)) ((List Int × Unit × List Int)) := ⟨(.cons 1 (.lit (.ptr 0 [] 35)) (.cons 2 (.lit (.ptr 1 [] 58)) (.cons 3 (.lit (.ptr 2 [] 58)) (.one 4 (.int .i64))))), (.cons 0 (.ints .i64 10) (.cons 1 (.lit (.ints .u8 32 [0, 0, 0, 0, 0, 0, 0, 0, 0, 0, 0, 0, 0, 0, 0, 0, 0, 0, 0, 0, 0, 0, 0, 0, 0, 0, 0, 0, 0, 0, 0, 0])) (.one 2 (.ints .u8 32))))⟩
def veilref01_F_Encode_l0_O : Fm ((Unit × Unit)) ((Unit × List Int)) := ⟨(.cons 2 (.lit (.ptr 1 [] 58)) (.one 3 (.lit (.ptr 2 [] 58)))), (.cons 1 (.lit (.ints .u8 32 [0, 0, 0, 0, 0, 0, 0, 0, 0, 0, 0, 0, 0, 0, 0, 0, 0, 0, 0, 0, 0, 0, 0, 0, 0, 0, 0, 0, 0, 0, 0, 0])) (.one 2 (.ints .u8 32)))⟩
def veilref01_F_Encode_l0_T : Fm (Unit) (Unit) := ⟨.nil, .nil⟩
noncomputable def ls_veilref01_F_Encode (N : Nat) : List (Nat × Lf) := [(0, loopCt veilref01_F_Encode_l0_H veilref01_F_Encode_l0_O veilref01_F_Encode_l0_T 4 (veilref01_F_Encode_l0 N) N)]
theorem veilref01_F_Encode_l0_step (N : Nat) : ∀ v, exec Tryz.prog (cxOf Tryz.f50 (cs_veilref01_F_Encode N) gs_veilref01_F_Encode 0) (fun i => lkL i (ls_veilref01_F_Encode N)) 100 none (loopBody Tryz.f50 0) (veilref01_F_Encode_l0_H.st 4 v) (rdEnd veilref01_F_Encode_l0_H veilref01_F_Encode_l0_O veilref01_F_Encode_l0_T 4 0) = veilref01_F_Encode_l0 N v := by
  intro v; kernel_rfl
theorem r_veilref01_F_Encode (N : Nat) : ∀ x, run Tryz.prog (fun g => lkG g (cs_veilref01_F_Encode N)) (glAt gs_veilref01_F_Encode 0) (gs_veilref01_F_Encode.length + 0) (memAt gs_veilref01_F_Encode 0 ++ (unc gs_veilref01_F_Encode.length (Ag.mk ((.one (.ints .i64 10))) x)).2) (fun i => lkL i (ls_veilref01_F_Encode N)) 100 Tryz.f50 (unc gs_veilref01_F_Encode.length (Ag.mk ((.one (.ints .i64 10))) x)).1 none (Pt.get ((.ints .u8 32))) = veilref01_F_Encode N x := by
  intro x; kernel_rfl
theorem s_veilref01_F_Encode {w0 : World} (N : Nat)  : SoundAt Tryz.prog w0 50 (ct_veilref01_F_Encode N) := by
  have hcs : ∀ x ∈ cs_veilref01_F_Encode N, SoundAt Tryz.prog w0 x.1 x.2 := by
    intro x hx
    simp [cs_veilref01_F_Encode] at hx
  have L0 : ∀ w, RowKit.Below w0.heap.size w0 w → LoopOK Tryz.prog (cxOf Tryz.f50 (cs_veilref01_F_Encode N) gs_veilref01_F_Encode 0) w 0 (.loop (loopBody Tryz.f50 0)) (loopCt veilref01_F_Encode_l0_H veilref01_F_Encode_l0_O veilref01_F_Encode_l0_T 4 (veilref01_F_Encode_l0 N) N) :=
    loop_printed hcs (ls := ls_veilref01_F_Encode N) (n := 100) (by kernel_rfl) (veilref01_F_Encode_l0_step N) N fun w hw => loopsOK_list (by
      intro x hx
      simp only [ls_veilref01_F_Encode, List.mem_cons, List.not_mem_nil, or_false] at hx
      rcases hx with rfl
      · exact .inl (by kernel_rfl)
    )
  exact fn_printed hcs (glob_nil _ _) Tryz.func50 (by kernel_rfl) (by kernel_rfl) (S := 0) (fun w hw => loopsOK_list (by
    intro x hx
    simp only [ls_veilref01_F_Encode, List.mem_cons, List.not_mem_nil, or_false] at hx
    rcases hx with rfl
    · exact .inr ⟨_, by kernel_rfl, L0 w hw⟩
  )) (fun _ => rfl) (r_veilref01_F_Encode N)
theorem k_veilref01_F_Encode {w0 : World} (N : Nat)  : SoundAt Tryz.prog w0 50 (ct_veilref01_F_Encode N) :=
  s_veilref01_F_Encode N

def ct_veilref01_Number (N : Nat) : Ct := fct (.one (.tup (.cons (.lst .u8) (.one (.lit (.clo 5 [])))))) (.ints .i64 10) fun x => veilref01_Number N x
def cs_veilref01_Number (N : Nat) : List (FuncId × Ct) := [(104, (ct_veilref01_least N))]
def gs_veilref01_Number : List Gv := []
def veilref01_Number_l0_H : Fm ((Nat × Unit × Unit × Int)) (((Nat × List Int) × Unit × List Int)) := ⟨(.cons 0 (.slw 0 5) (.cons 2 (.lit (.ptr 1 [] 35)) (.cons 3 (.lit (.ptr 2 [] 141)) (.one 4 (.int .i64))))), (.cons 0 (.lst .u8) (.cons 1 (.lit (.ints .i64 10 [0, 0, 0, 0, 0, 0, 0, 0, 0, 0])) (.one 2 (.ints .i64 20))))⟩
def veilref01_Number_l0_O : Fm ((Unit × Unit)) ((Unit × List Int)) := ⟨(.cons 2 (.lit (.ptr 1 [] 35)) (.one 3 (.lit (.ptr 2 [] 141)))), (.cons 1 (.lit (.ints .i64 10 [0, 0, 0, 0, 0, 0, 0, 0, 0, 0])) (.one 2 (.ints .i64 20)))⟩
def veilref01_Number_l0_T : Fm (Unit) (Unit) := ⟨.nil, .nil⟩
noncomputable def ls_veilref01_Number (N : Nat) : List (Nat × Lf) := [(0, loopCt veilref01_Number_l0_H veilref01_Number_l0_O veilref01_Number_l0_T 4 (veilref01_Number_l0 N) N)]
theorem veilref01_Number_l0_step (N : Nat) : ∀ v, exec Tryz.prog (cxOf Tryz.f87 (cs_veilref01_Number N) gs_veilref01_Number 1) (fun i => lkL i (ls_veilref01_Number N)) 100 none (loopBody Tryz.f87 0) (veilref01_Number_l0_H.st 4 v) (rdEnd veilref01_Number_l0_H veilref01_Number_l0_O veilref01_Number_l0_T 4 0) = veilref01_Number_l0 N v := by
  intro v; kernel_rfl
theorem r_veilref01_Number (N : Nat) : ∀ x, run Tryz.prog (fun g => lkG g (cs_veilref01_Number N)) (glAt gs_veilref01_Number 0) (gs_veilref01_Number.length + 1) (memAt gs_veilref01_Number 0 ++ (unc gs_veilref01_Number.length (Ag.mk ((.one (.tup (.cons (.lst .u8) (.one (.lit (.clo 5 []))))))) x)).2) (fun i => lkL i (ls_veilref01_Number N)) 100 Tryz.f87 (unc gs_veilref01_Number.length (Ag.mk ((.one (.tup (.cons (.lst .u8) (.one (.lit (.clo 5 []))))))) x)).1 none (Pt.get ((.ints .i64 10))) = veilref01_Number N x := by
  intro x; kernel_rfl
theorem s_veilref01_Number {w0 : World} (N : Nat)  (h104 : SoundAt Tryz.prog w0 104 (ct_veilref01_least N)) : SoundAt Tryz.prog w0 87 (ct_veilref01_Number N) := by
  have hcs : ∀ x ∈ cs_veilref01_Number N, SoundAt Tryz.prog w0 x.1 x.2 := by
    intro x hx
    simp only [cs_veilref01_Number, List.mem_cons, List.not_mem_nil, or_false] at hx
    rcases hx with rfl
    · exact h104
  have L0 : ∀ w, RowKit.Below w0.heap.size w0 w → LoopOK Tryz.prog (cxOf Tryz.f87 (cs_veilref01_Number N) gs_veilref01_Number 1) w 0 (.loop (loopBody Tryz.f87 0)) (loopCt veilref01_Number_l0_H veilref01_Number_l0_O veilref01_Number_l0_T 4 (veilref01_Number_l0 N) N) :=
    loop_printed hcs (ls := ls_veilref01_Number N) (n := 100) (by kernel_rfl) (veilref01_Number_l0_step N) N fun w hw => loopsOK_list (by
      intro x hx
      simp only [ls_veilref01_Number, List.mem_cons, List.not_mem_nil, or_false] at hx
      rcases hx with rfl
      · exact .inl (by kernel_rfl)
    )
  exact fn_printed hcs (glob_nil _ _) Tryz.func87 (by kernel_rfl) (by kernel_rfl) (S := 1) (fun w hw => loopsOK_list (by
    intro x hx
    simp only [ls_veilref01_Number, List.mem_cons, List.not_mem_nil, or_false] at hx
    rcases hx with rfl
    · exact .inr ⟨_, by kernel_rfl, L0 w hw⟩
  )) (fun _ => rfl) (r_veilref01_Number N)
theorem k_veilref01_Number {w0 : World} (N : Nat)  (hg_veilref01_least : GlobOK Tryz.prog w0 gs_veilref01_least) : SoundAt Tryz.prog w0 87 (ct_veilref01_Number N) :=
  s_veilref01_Number N (k_veilref01_least N hg_veilref01_least)

def ct_veilref01_Reduce (N : Nat) : Ct := fct (.one (.ints .u8 32)) (.ints .i64 10) fun x => veilref01_Reduce N x
def cs_veilref01_Reduce (N : Nat) : List (FuncId × Ct) := [(87, (ct_veilref01_Number N))]
def gs_veilref01_Reduce : List Gv := []
noncomputable def ls_veilref01_Reduce (N : Nat) : List (Nat × Lf) := []
theorem r_veilref01_Reduce (N : Nat) : ∀ x, run Tryz.prog (fun g => lkG g (cs_veilref01_Reduce N)) (glAt gs_veilref01_Reduce 0) (gs_veilref01_Reduce.length + 0) (memAt gs_veilref01_Reduce 0 ++ (unc gs_veilref01_Reduce.length (Ag.mk ((.one (.ints .u8 32))) x)).2) (fun i => lkL i (ls_veilref01_Reduce N)) 100 Tryz.f22 (unc gs_veilref01_Reduce.length (Ag.mk ((.one (.ints .u8 32))) x)).1 none (Pt.get ((.ints .i64 10))) = veilref01_Reduce N x := by
  intro x; kernel_rfl
theorem s_veilref01_Reduce {w0 : World} (N : Nat)  (h87 : SoundAt Tryz.prog w0 87 (ct_veilref01_Number N)) : SoundAt Tryz.prog w0 22 (ct_veilref01_Reduce N) := by
  have hcs : ∀ x ∈ cs_veilref01_Reduce N, SoundAt Tryz.prog w0 x.1 x.2 := by
    intro x hx
    simp only [cs_veilref01_Reduce, List.mem_cons, List.not_mem_nil, or_false] at hx
    rcases hx with rfl
    · exact h87
  exact fn_printed hcs (glob_nil _ _) Tryz.func22 (by kernel_rfl) (by kernel_rfl) (S := 0) (fun w _ => loopsOK_nil _) (fun _ => rfl) (r_veilref01_Reduce N)
theorem k_veilref01_Reduce {w0 : World} (N : Nat)  (hg_veilref01_least : GlobOK Tryz.prog w0 gs_veilref01_least) : SoundAt Tryz.prog w0 22 (ct_veilref01_Reduce N) :=
  s_veilref01_Reduce N (k_veilref01_Number N hg_veilref01_least)

def ct_veilref04_Neutral : Ct := tct .nil (.agg (.cons (.ints .i64 10) (.one (.ints .i64 10)))) fun x => veilref04_Neutral
def cs_veilref04_Neutral : List (FuncId × Ct) := []
def gs_veilref04_Neutral : List Gv := [⟨2, 35, (.ints .i64 10 [1, 0, 0, 0, 0, 0, 0, 0, 0, 0])⟩]
noncomputable def ls_veilref04_Neutral : List (Nat × Lf) := []
theorem r_veilref04_Neutral : ∀ x, run Tryz.prog (fun g => lkG g (cs_veilref04_Neutral)) (glAt gs_veilref04_Neutral 0) (gs_veilref04_Neutral.length + 0) (memAt gs_veilref04_Neutral 0 ++ (unc gs_veilref04_Neutral.length (Ag.mk (.nil) x)).2) (fun i => lkL i (ls_veilref04_Neutral)) 100 Tryz.f93 (unc gs_veilref04_Neutral.length (Ag.mk (.nil) x)).1 none (Pt.get ((.agg (.cons (.ints .i64 10) (.one (.ints .i64 10)))))) = some (veilref04_Neutral) := by
  intro x; kernel_rfl
theorem s_veilref04_Neutral {w0 : World}  (hg : GlobOK Tryz.prog w0 gs_veilref04_Neutral) : SoundAt Tryz.prog w0 93 ct_veilref04_Neutral := by
  have hcs : ∀ x ∈ cs_veilref04_Neutral, SoundAt Tryz.prog w0 x.1 x.2 := by
    intro x hx
    simp [cs_veilref04_Neutral] at hx
  exact sound_tct (fn_printed hcs hg Tryz.func93 (by kernel_rfl) (by kernel_rfl) (S := 0) (fun w _ => loopsOK_nil _) (fun _ => rfl) (r_veilref04_Neutral)) fun _ _ => rfl
theorem k_veilref04_Neutral {w0 : World}  (hg_veilref04_Neutral : GlobOK Tryz.prog w0 gs_veilref04_Neutral) : SoundAt Tryz.prog w0 93 ct_veilref04_Neutral :=
  s_veilref04_Neutral hg_veilref04_Neutral

def ct_veilref04_Point_Add (N : Nat) : Ct := fct (.cons (.agg (.cons (.ints .i64 10) (.one (.ints .i64 10)))) (.one (.agg (.cons (.ints .i64 10) (.one (.ints .i64 10)))))) (.agg (.cons (.ints .i64 10) (.one (.ints .i64 10)))) fun x => veilref04_Point_Add N x.1 x.2
def cs_veilref04_Point_Add (N : Nat) : List (FuncId × Ct) := [(46, (ct_veilref01_F_Sub N)), (47, (ct_veilref01_F_Add N)), (80, ct_veilref01_D), (82, (ct_veilref01_F_Mul N)), (86, (ct_veilref01_F_Invert N))]
def gs_veilref04_Point_Add : List Gv := [⟨2, 35, (.ints .i64 10 [1, 0, 0, 0, 0, 0, 0, 0, 0, 0])⟩]
noncomputable def ls_veilref04_Point_Add (N : Nat) : List (Nat × Lf) := []
theorem r_veilref04_Point_Add (N : Nat) : ∀ x, run Tryz.prog (fun g => lkG g (cs_veilref04_Point_Add N)) (glAt gs_veilref04_Point_Add 0) (gs_veilref04_Point_Add.length + 0) (memAt gs_veilref04_Point_Add 0 ++ (unc gs_veilref04_Point_Add.length (Ag.mk ((.cons (.agg (.cons (.ints .i64 10) (.one (.ints .i64 10)))) (.one (.agg (.cons (.ints .i64 10) (.one (.ints .i64 10))))))) x)).2) (fun i => lkL i (ls_veilref04_Point_Add N)) 100 Tryz.f88 (unc gs_veilref04_Point_Add.length (Ag.mk ((.cons (.agg (.cons (.ints .i64 10) (.one (.ints .i64 10)))) (.one (.agg (.cons (.ints .i64 10) (.one (.ints .i64 10))))))) x)).1 none (Pt.get ((.agg (.cons (.ints .i64 10) (.one (.ints .i64 10)))))) = veilref04_Point_Add N x.1 x.2 := by
  intro x; kernel_rfl
theorem s_veilref04_Point_Add {w0 : World} (N : Nat)  (h46 : SoundAt Tryz.prog w0 46 (ct_veilref01_F_Sub N)) (h47 : SoundAt Tryz.prog w0 47 (ct_veilref01_F_Add N)) (h80 : SoundAt Tryz.prog w0 80 ct_veilref01_D) (h82 : SoundAt Tryz.prog w0 82 (ct_veilref01_F_Mul N)) (h86 : SoundAt Tryz.prog w0 86 (ct_veilref01_F_Invert N)) (hg : GlobOK Tryz.prog w0 gs_veilref04_Point_Add) : SoundAt Tryz.prog w0 88 (ct_veilref04_Point_Add N) := by
  have hcs : ∀ x ∈ cs_veilref04_Point_Add N, SoundAt Tryz.prog w0 x.1 x.2 := by
    intro x hx
    simp only [cs_veilref04_Point_Add, List.mem_cons, List.not_mem_nil, or_false] at hx
    rcases hx with rfl | rfl | rfl | rfl | rfl
    · exact h46
    · exact h47
    · exact h80
    · exact h82
    · exact h86
  exact fn_printed hcs hg Tryz.func88 (by kernel_rfl) (by kernel_rfl) (S := 0) (fun w _ => loopsOK_nil _) (fun _ => rfl) (r_veilref04_Point_Add N)
theorem k_veilref04_Point_Add {w0 : World} (N : Nat)  (hg_veilref01_least : GlobOK Tryz.prog w0 gs_veilref01_least) (hg_veilref01_F_Neg : GlobOK Tryz.prog w0 gs_veilref01_F_Neg) (hg_veilref04_Point_Add : GlobOK Tryz.prog w0 gs_veilref04_Point_Add) : SoundAt Tryz.prog w0 88 (ct_veilref04_Point_Add N) :=
  s_veilref04_Point_Add N (k_veilref01_F_Sub N hg_veilref01_least hg_veilref01_F_Neg) (k_veilref01_F_Add N hg_veilref01_least) (k_veilref01_D) (k_veilref01_F_Mul N hg_veilref01_least) (k_veilref01_F_Invert N hg_veilref01_least) hg_veilref04_Point_Add

def ct_veilref05_Point_at : Ct := tct (.one (.agg (.one (.agg (.cons (.ints .i64 10) (.one (.ints .i64 10))))))) (.agg (.cons (.ints .i64 10) (.one (.ints .i64 10)))) fun x => veilref05_Point_at x
def cs_veilref05_Point_at : List (FuncId × Ct) := [(93, ct_veilref04_Neutral)]
def gs_veilref05_Point_at : List Gv := []
noncomputable def ls_veilref05_Point_at : List (Nat × Lf) := []
theorem r_veilref05_Point_at : ∀ x, run Tryz.prog (fun g => lkG g (cs_veilref05_Point_at)) (glAt gs_veilref05_Point_at 0) (gs_veilref05_Point_at.length + 0) (memAt gs_veilref05_Point_at 0 ++ (unc gs_veilref05_Point_at.length (Ag.mk ((.one (.agg (.one (.agg (.cons (.ints .i64 10) (.one (.ints .i64 10)))))))) x)).2) (fun i => lkL i (ls_veilref05_Point_at)) 100 Tryz.f29 (unc gs_veilref05_Point_at.length (Ag.mk ((.one (.agg (.one (.agg (.cons (.ints .i64 10) (.one (.ints .i64 10)))))))) x)).1 none (Pt.get ((.agg (.cons (.ints .i64 10) (.one (.ints .i64 10)))))) = veilref05_Point_at_o x := by
  intro x; kernel_rfl
theorem s_veilref05_Point_at {w0 : World}  (h93 : SoundAt Tryz.prog w0 93 ct_veilref04_Neutral) : SoundAt Tryz.prog w0 29 ct_veilref05_Point_at := by
  have hcs : ∀ x ∈ cs_veilref05_Point_at, SoundAt Tryz.prog w0 x.1 x.2 := by
    intro x hx
    simp only [cs_veilref05_Point_at, List.mem_cons, List.not_mem_nil, or_false] at hx
    rcases hx with rfl
    · exact h93
  exact sound_tct (fn_printed hcs (glob_nil _ _) Tryz.func29 (by kernel_rfl) (by kernel_rfl) (S := 0) (fun w _ => loopsOK_nil _) (fun _ => rfl) (r_veilref05_Point_at)) fun _ _ => veilref05_Point_at_tot _
theorem k_veilref05_Point_at {w0 : World}  (hg_veilref04_Neutral : GlobOK Tryz.prog w0 gs_veilref04_Neutral) : SoundAt Tryz.prog w0 29 ct_veilref05_Point_at :=
  s_veilref05_Point_at (k_veilref04_Neutral hg_veilref04_Neutral)

def ct_veilref05_coset (N : Nat) : Ct := fct (.one (.agg (.cons (.ints .i64 10) (.one (.ints .i64 10))))) (.agg (.cons (.agg (.cons (.ints .i64 10) (.one (.ints .i64 10)))) (.cons (.agg (.cons (.ints .i64 10) (.one (.ints .i64 10)))) (.cons (.agg (.cons (.ints .i64 10) (.one (.ints .i64 10)))) (.one (.agg (.cons (.ints .i64 10) (.one (.ints .i64 10))))))))) fun x => veilref05_coset N x
def cs_veilref05_coset (N : Nat) : List (FuncId × Ct) := [(81, ct_veilref01_I), (82, (ct_veilref01_F_Mul N)), (83, ct_veilref01_F_Neg)]
def gs_veilref05_coset : List Gv := []
noncomputable def ls_veilref05_coset (N : Nat) : List (Nat × Lf) := []
theorem r_veilref05_coset (N : Nat) : ∀ x, run Tryz.prog (fun g => lkG g (cs_veilref05_coset N)) (glAt gs_veilref05_coset 0) (gs_veilref05_coset.length + 0) (memAt gs_veilref05_coset 0 ++ (unc gs_veilref05_coset.length (Ag.mk ((.one (.agg (.cons (.ints .i64 10) (.one (.ints .i64 10)))))) x)).2) (fun i => lkL i (ls_veilref05_coset N)) 100 Tryz.f28 (unc gs_veilref05_coset.length (Ag.mk ((.one (.agg (.cons (.ints .i64 10) (.one (.ints .i64 10)))))) x)).1 none (Pt.get ((.agg (.cons (.agg (.cons (.ints .i64 10) (.one (.ints .i64 10)))) (.cons (.agg (.cons (.ints .i64 10) (.one (.ints .i64 10)))) (.cons (.agg (.cons (.ints .i64 10) (.one (.ints .i64 10)))) (.one (.agg (.cons (.ints .i64 10) (.one (.ints .i64 10))))))))))) = veilref05_coset N x := by
  intro x; kernel_rfl
theorem s_veilref05_coset {w0 : World} (N : Nat)  (h81 : SoundAt Tryz.prog w0 81 ct_veilref01_I) (h82 : SoundAt Tryz.prog w0 82 (ct_veilref01_F_Mul N)) (h83 : SoundAt Tryz.prog w0 83 ct_veilref01_F_Neg) : SoundAt Tryz.prog w0 28 (ct_veilref05_coset N) := by
  have hcs : ∀ x ∈ cs_veilref05_coset N, SoundAt Tryz.prog w0 x.1 x.2 := by
    intro x hx
    simp only [cs_veilref05_coset, List.mem_cons, List.not_mem_nil, or_false] at hx
    rcases hx with rfl | rfl | rfl
    · exact h81
    · exact h82
    · exact h83
  exact fn_printed hcs (glob_nil _ _) Tryz.func28 (by kernel_rfl) (by kernel_rfl) (S := 0) (fun w _ => loopsOK_nil _) (fun _ => rfl) (r_veilref05_coset N)
theorem k_veilref05_coset {w0 : World} (N : Nat)  (hg_veilref01_least : GlobOK Tryz.prog w0 gs_veilref01_least) (hg_veilref01_F_Neg : GlobOK Tryz.prog w0 gs_veilref01_F_Neg) : SoundAt Tryz.prog w0 28 (ct_veilref05_coset N) :=
  s_veilref05_coset N (k_veilref01_I) (k_veilref01_F_Mul N hg_veilref01_least) (k_veilref01_F_Neg hg_veilref01_F_Neg)

def ct_veilref05_Point_Add (N : Nat) : Ct := fct (.cons (.agg (.one (.agg (.cons (.ints .i64 10) (.one (.ints .i64 10)))))) (.one (.agg (.one (.agg (.cons (.ints .i64 10) (.one (.ints .i64 10)))))))) (.agg (.one (.agg (.cons (.ints .i64 10) (.one (.ints .i64 10)))))) fun x => veilref05_Point_Add N x.1 x.2
def cs_veilref05_Point_Add (N : Nat) : List (FuncId × Ct) := [(29, ct_veilref05_Point_at), (88, (ct_veilref04_Point_Add N))]
def gs_veilref05_Point_Add : List Gv := []
noncomputable def ls_veilref05_Point_Add (N : Nat) : List (Nat × Lf) := []
theorem r_veilref05_Point_Add (N : Nat) : ∀ x, run Tryz.prog (fun g => lkG g (cs_veilref05_Point_Add N)) (glAt gs_veilref05_Point_Add 0) (gs_veilref05_Point_Add.length + 0) (memAt gs_veilref05_Point_Add 0 ++ (unc gs_veilref05_Point_Add.length (Ag.mk ((.cons (.agg (.one (.agg (.cons (.ints .i64 10) (.one (.ints .i64 10)))))) (.one (.agg (.one (.agg (.cons (.ints .i64 10) (.one (.ints .i64 10))))))))) x)).2) (fun i => lkL i (ls_veilref05_Point_Add N)) 100 Tryz.f23 (unc gs_veilref05_Point_Add.length (Ag.mk ((.cons (.agg (.one (.agg (.cons (.ints .i64 10) (.one (.ints .i64 10)))))) (.one (.agg (.one (.agg (.cons (.ints .i64 10) (.one (.ints .i64 10))))))))) x)).1 none (Pt.get ((.agg (.one (.agg (.cons (.ints .i64 10) (.one (.ints .i64 10)))))))) = veilref05_Point_Add N x.1 x.2 := by
  intro x; kernel_rfl
theorem s_veilref05_Point_Add {w0 : World} (N : Nat)  (h29 : SoundAt Tryz.prog w0 29 ct_veilref05_Point_at) (h88 : SoundAt Tryz.prog w0 88 (ct_veilref04_Point_Add N)) : SoundAt Tryz.prog w0 23 (ct_veilref05_Point_Add N) := by
  have hcs : ∀ x ∈ cs_veilref05_Point_Add N, SoundAt Tryz.prog w0 x.1 x.2 := by
    intro x hx
    simp only [cs_veilref05_Point_Add, List.mem_cons, List.not_mem_nil, or_false] at hx
    rcases hx with rfl | rfl
    · exact h29
    · exact h88
  exact fn_printed hcs (glob_nil _ _) Tryz.func23 (by kernel_rfl) (by kernel_rfl) (S := 0) (fun w _ => loopsOK_nil _) (fun _ => rfl) (r_veilref05_Point_Add N)
theorem k_veilref05_Point_Add {w0 : World} (N : Nat)  (hg_veilref04_Neutral : GlobOK Tryz.prog w0 gs_veilref04_Neutral) (hg_veilref01_least : GlobOK Tryz.prog w0 gs_veilref01_least) (hg_veilref01_F_Neg : GlobOK Tryz.prog w0 gs_veilref01_F_Neg) (hg_veilref04_Point_Add : GlobOK Tryz.prog w0 gs_veilref04_Point_Add) : SoundAt Tryz.prog w0 23 (ct_veilref05_Point_Add N) :=
  s_veilref05_Point_Add N (k_veilref05_Point_at hg_veilref04_Neutral) (k_veilref04_Point_Add N hg_veilref01_least hg_veilref01_F_Neg hg_veilref04_Point_Add)

def ct_veilref05_MapHalf (N : Nat) : Ct := fct (.one (.ints .i64 10)) (.agg (.one (.agg (.cons (.ints .i64 10) (.one (.ints .i64 10)))))) fun x => veilref05_MapHalf N x
def cs_veilref05_MapHalf (N : Nat) : List (FuncId × Ct) := [(45, (ct_veilref01_SqrtRatio N)), (46, (ct_veilref01_F_Sub N)), (47, (ct_veilref01_F_Add N)), (80, ct_veilref01_D), (81, ct_veilref01_I), (82, (ct_veilref01_F_Mul N)), (83, ct_veilref01_F_Neg), (84, ct_veilref01_F_Abs), (85, (ct_veilref01_Const N)), (86, (ct_veilref01_F_Invert N))]
def gs_veilref05_MapHalf : List Gv := [⟨2, 35, (.ints .i64 10 [1, 0, 0, 0, 0, 0, 0, 0, 0, 0])⟩]
noncomputable def ls_veilref05_MapHalf (N : Nat) : List (Nat × Lf) := []
theorem r_veilref05_MapHalf (N : Nat) : ∀ x, run Tryz.prog (fun g => lkG g (cs_veilref05_MapHalf N)) (glAt gs_veilref05_MapHalf 0) (gs_veilref05_MapHalf.length + 0) (memAt gs_veilref05_MapHalf 0 ++ (unc gs_veilref05_MapHalf.length (Ag.mk ((.one (.ints .i64 10))) x)).2) (fun i => lkL i (ls_veilref05_MapHalf N)) 100 Tryz.f21 (unc gs_veilref05_MapHalf.length (Ag.mk ((.one (.ints .i64 10))) x)).1 none (Pt.get ((.agg (.one (.agg (.cons (.ints .i64 10) (.one (.ints .i64 10)))))))) = veilref05_MapHalf N x := by
  intro x; kernel_rfl
theorem s_veilref05_MapHalf {w0 : World} (N : Nat)  (h45 : SoundAt Tryz.prog w0 45 (ct_veilref01_SqrtRatio N)) (h46 : SoundAt Tryz.prog w0 46 (ct_veilref01_F_Sub N)) (h47 : SoundAt Tryz.prog w0 47 (ct_veilref01_F_Add N)) (h80 : SoundAt Tryz.prog w0 80 ct_veilref01_D) (h81 : SoundAt Tryz.prog w0 81 ct_veilref01_I) (h82 : SoundAt Tryz.prog w0 82 (ct_veilref01_F_Mul N)) (h83 : SoundAt Tryz.prog w0 83 ct_veilref01_F_Neg) (h84 : SoundAt Tryz.prog w0 84 ct_veilref01_F_Abs) (h85 : SoundAt Tryz.prog w0 85 (ct_veilref01_Const N)) (h86 : SoundAt Tryz.prog w0 86 (ct_veilref01_F_Invert N)) (hg : GlobOK Tryz.prog w0 gs_veilref05_MapHalf) : SoundAt Tryz.prog w0 21 (ct_veilref05_MapHalf N) := by
  have hcs : ∀ x ∈ cs_veilref05_MapHalf N, SoundAt Tryz.prog w0 x.1 x.2 := by
    intro x hx
    simp only [cs_veilref05_MapHalf, List.mem_cons, List.not_mem_nil, or_false] at hx
    rcases hx with rfl | rfl | rfl | rfl | rfl | rfl | rfl | rfl | rfl | rfl
    · exact h45
    · exact h46
    · exact h47
    · exact h80
    · exact h81
    · exact h82
    · exact h83
    · exact h84
    · exact h85
    · exact h86
  exact fn_printed hcs hg Tryz.func21 (by kernel_rfl) (by kernel_rfl) (S := 0) (fun w _ => loopsOK_nil _) (fun _ => rfl) (r_veilref05_MapHalf N)
theorem k_veilref05_MapHalf {w0 : World} (N : Nat)  (hg_veilref01_least : GlobOK Tryz.prog w0 gs_veilref01_least) (hg_veilref01_F_Neg : GlobOK Tryz.prog w0 gs_veilref01_F_Neg) (hg_veilref01_root : GlobOK Tryz.prog w0 gs_veilref01_root) (hg_veilref01_SqrtRatio : GlobOK Tryz.prog w0 gs_veilref01_SqrtRatio) (hg_veilref01_Const : GlobOK Tryz.prog w0 gs_veilref01_Const) (hg_veilref05_MapHalf : GlobOK Tryz.prog w0 gs_veilref05_MapHalf) : SoundAt Tryz.prog w0 21 (ct_veilref05_MapHalf N) :=
  s_veilref05_MapHalf N (k_veilref01_SqrtRatio N hg_veilref01_least hg_veilref01_F_Neg hg_veilref01_root hg_veilref01_SqrtRatio) (k_veilref01_F_Sub N hg_veilref01_least hg_veilref01_F_Neg) (k_veilref01_F_Add N hg_veilref01_least) (k_veilref01_D) (k_veilref01_I) (k_veilref01_F_Mul N hg_veilref01_least) (k_veilref01_F_Neg hg_veilref01_F_Neg) (k_veilref01_F_Abs hg_veilref01_F_Neg) (k_veilref01_Const N hg_veilref01_least hg_veilref01_F_Neg hg_veilref01_root hg_veilref01_Const) (k_veilref01_F_Invert N hg_veilref01_least) hg_veilref05_MapHalf

def ct_veilref05_Map (N : Nat) : Ct := fct (.one (.ints .u8 64)) (.agg (.one (.agg (.cons (.ints .i64 10) (.one (.ints .i64 10)))))) fun x => veilref05_Map N x
def cs_veilref05_Map (N : Nat) : List (FuncId × Ct) := [(21, (ct_veilref05_MapHalf N)), (22, (ct_veilref01_Reduce N)), (23, (ct_veilref05_Point_Add N))]
def gs_veilref05_Map : List Gv := []
def veilref05_Map_l0_H : Fm ((Unit × Unit × Unit × Unit × Int)) ((List Int × Unit × List Int × List Int)) := ⟨(.cons 1 (.lit (.ptr 0 [] 23)) (.cons 2 (.lit (.ptr 1 [] 39)) (.cons 3 (.lit (.ptr 2 [] 58)) (.cons 4 (.lit (.ptr 3 [] 58)) (.one 5 (.int .i64)))))), (.cons 0 (.ints .u8 64) (.cons 1 (.lit (.agg [(.agg [(.ints .i64 10 [0, 0, 0, 0, 0, 0, 0, 0, 0, 0]), (.ints .i64 10 [0, 0, 0, 0, 0, 0, 0, 0, 0, 0])])])) (.cons 2 (.ints .u8 32) (.one 3 (.ints .u8 32)))))⟩
def veilref05_Map_l0_O : Fm ((Unit × Unit × Unit)) ((Unit × List Int × List Int)) := ⟨(.cons 2 (.lit (.ptr 1 [] 39)) (.cons 3 (.lit (.ptr 2 [] 58)) (.one 4 (.lit (.ptr 3 [] 58))))), (.cons 1 (.lit (.agg [(.agg [(.ints .i64 10 [0, 0, 0, 0, 0, 0, 0, 0, 0, 0]), (.ints .i64 10 [0, 0, 0, 0, 0, 0, 0, 0, 0, 0])])])) (.cons 2 (.ints .u8 32) (.one 3 (.ints .u8 32))))⟩
def veilref05_Map_l0_T : Fm (Unit) (Unit) := ⟨.nil, .nil⟩
noncomputable def ls_veilref05_Map (N : Nat) : List (Nat × Lf) := [(0, loopCt veilref05_Map_l0_H veilref05_Map_l0_O veilref05_Map_l0_T 5 (veilref05_Map_l0 N) N)]
theorem veilref05_Map_l0_step (N : Nat) : ∀ v, exec Tryz.prog (cxOf Tryz.f6 (cs_veilref05_Map N) gs_veilref05_Map 0) (fun i => lkL i (ls_veilref05_Map N)) 100 none (loopBody Tryz.f6 0) (veilref05_Map_l0_H.st 5 v) (rdEnd veilref05_Map_l0_H veilref05_Map_l0_O veilref05_Map_l0_T 5 0) = veilref05_Map_l0 N v := by
  intro v; kernel_rfl
theorem r_veilref05_Map (N : Nat) : ∀ x, run Tryz.prog (fun g => lkG g (cs_veilref05_Map N)) (glAt gs_veilref05_Map 0) (gs_veilref05_Map.length + 0) (memAt gs_veilref05_Map 0 ++ (unc gs_veilref05_Map.length (Ag.mk ((.one (.ints .u8 64))) x)).2) (fun i => lkL i (ls_veilref05_Map N)) 100 Tryz.f6 (unc gs_veilref05_Map.length (Ag.mk ((.one (.ints .u8 64))) x)).1 none (Pt.get ((.agg (.one (.agg (.cons (.ints .i64 10) (.one (.ints .i64 10)))))))) = veilref05_Map N x := by
  intro x; kernel_rfl
theorem s_veilref05_Map {w0 : World} (N : Nat)  (h21 : SoundAt Tryz.prog w0 21 (ct_veilref05_MapHalf N)) (h22 : SoundAt Tryz.prog w0 22 (ct_veilref01_Reduce N)) (h23 : SoundAt Tryz.prog w0 23 (ct_veilref05_Point_Add N)) : SoundAt Tryz.prog w0 6 (ct_veilref05_Map N) := by
  have hcs : ∀ x ∈ cs_veilref05_Map N, SoundAt Tryz.prog w0 x.1 x.2 := by
    intro x hx
    simp only [cs_veilref05_Map, List.mem_cons, List.not_mem_nil, or_false] at hx
    rcases hx with rfl | rfl | rfl
    · exact h21
    · exact h22
    · exact h23
  have L0 : ∀ w, RowKit.Below w0.heap.size w0 w → LoopOK Tryz.prog (cxOf Tryz.f6 (cs_veilref05_Map N) gs_veilref05_Map 0) w 0 (.loop (loopBody Tryz.f6 0)) (loopCt veilref05_Map_l0_H veilref05_Map_l0_O veilref05_Map_l0_T 5 (veilref05_Map_l0 N) N) :=
    loop_printed hcs (ls := ls_veilref05_Map N) (n := 100) (by kernel_rfl) (veilref05_Map_l0_step N) N fun w hw => loopsOK_list (by
      intro x hx
      simp only [ls_veilref05_Map, List.mem_cons, List.not_mem_nil, or_false] at hx
      rcases hx with rfl
      · exact .inl (by kernel_rfl)
    )
  exact fn_printed hcs (glob_nil _ _) Tryz.func6 (by kernel_rfl) (by kernel_rfl) (S := 0) (fun w hw => loopsOK_list (by
    intro x hx
    simp only [ls_veilref05_Map, List.mem_cons, List.not_mem_nil, or_false] at hx
    rcases hx with rfl
    · exact .inr ⟨_, by kernel_rfl, L0 w hw⟩
  )) (fun _ => rfl) (r_veilref05_Map N)
theorem k_veilref05_Map {w0 : World} (N : Nat)  (hg_veilref01_least : GlobOK Tryz.prog w0 gs_veilref01_least) (hg_veilref01_F_Neg : GlobOK Tryz.prog w0 gs_veilref01_F_Neg) (hg_veilref01_root : GlobOK Tryz.prog w0 gs_veilref01_root) (hg_veilref01_SqrtRatio : GlobOK Tryz.prog w0 gs_veilref01_SqrtRatio) (hg_veilref01_Const : GlobOK Tryz.prog w0 gs_veilref01_Const) (hg_veilref05_MapHalf : GlobOK Tryz.prog w0 gs_veilref05_MapHalf) (hg_veilref04_Neutral : GlobOK Tryz.prog w0 gs_veilref04_Neutral) (hg_veilref04_Point_Add : GlobOK Tryz.prog w0 gs_veilref04_Point_Add) : SoundAt Tryz.prog w0 6 (ct_veilref05_Map N) :=
  s_veilref05_Map N (k_veilref05_MapHalf N hg_veilref01_least hg_veilref01_F_Neg hg_veilref01_root hg_veilref01_SqrtRatio hg_veilref01_Const hg_veilref05_MapHalf) (k_veilref01_Reduce N hg_veilref01_least) (k_veilref05_Point_Add N hg_veilref04_Neutral hg_veilref01_least hg_veilref01_F_Neg hg_veilref04_Point_Add)

def ct_group_FromCurve (N : Nat) : Ct := fct (.one (.agg (.one (.agg (.cons (.ints .u64 5) (.cons (.ints .u64 5) (.cons (.ints .u64 5) (.one (.ints .u64 5))))))))) (.tup (.cons (.agg (.one (.agg (.one (.agg (.cons (.ints .u64 5) (.cons (.ints .u64 5) (.cons (.ints .u64 5) (.one (.ints .u64 5)))))))))) (.one (.int .i64)))) fun x => group_FromCurve N x
def cs_group_FromCurve (N : Nat) : List (FuncId × Ct) := [(32, ct_curve_Point_Double), (33, (ct_curve_Point_Free N))]
def gs_group_FromCurve : List Gv := []
noncomputable def ls_group_FromCurve (N : Nat) : List (Nat × Lf) := []
theorem r_group_FromCurve (N : Nat) : ∀ x, run Tryz.prog (fun g => lkG g (cs_group_FromCurve N)) (glAt gs_group_FromCurve 0) (gs_group_FromCurve.length + 0) (memAt gs_group_FromCurve 0 ++ (unc gs_group_FromCurve.length (Ag.mk ((.one (.agg (.one (.agg (.cons (.ints .u64 5) (.cons (.ints .u64 5) (.cons (.ints .u64 5) (.one (.ints .u64 5)))))))))) x)).2) (fun i => lkL i (ls_group_FromCurve N)) 100 Tryz.f9 (unc gs_group_FromCurve.length (Ag.mk ((.one (.agg (.one (.agg (.cons (.ints .u64 5) (.cons (.ints .u64 5) (.cons (.ints .u64 5) (.one (.ints .u64 5)))))))))) x)).1 none (Pt.get ((.tup (.cons (.agg (.one (.agg (.one (.agg (.cons (.ints .u64 5) (.cons (.ints .u64 5) (.cons (.ints .u64 5) (.one (.ints .u64 5)))))))))) (.one (.int .i64)))))) = group_FromCurve N x := by
  intro x; kernel_rfl
theorem s_group_FromCurve {w0 : World} (N : Nat)  (h32 : SoundAt Tryz.prog w0 32 ct_curve_Point_Double) (h33 : SoundAt Tryz.prog w0 33 (ct_curve_Point_Free N)) : SoundAt Tryz.prog w0 9 (ct_group_FromCurve N) := by
  have hcs : ∀ x ∈ cs_group_FromCurve N, SoundAt Tryz.prog w0 x.1 x.2 := by
    intro x hx
    simp only [cs_group_FromCurve, List.mem_cons, List.not_mem_nil, or_false] at hx
    rcases hx with rfl | rfl
    · exact h32
    · exact h33
  exact fn_printed hcs (glob_nil _ _) Tryz.func9 (by kernel_rfl) (by kernel_rfl) (S := 0) (fun w _ => loopsOK_nil _) (fun _ => rfl) (r_group_FromCurve N)
theorem k_group_FromCurve {w0 : World} (N : Nat)  (hg_curve_place_whole : GlobOK Tryz.prog w0 gs_curve_place_whole) (hg_curve_Point_Add : GlobOK Tryz.prog w0 gs_curve_Point_Add) (hg_curve_Point_Free : GlobOK Tryz.prog w0 gs_curve_Point_Free) : SoundAt Tryz.prog w0 9 (ct_group_FromCurve N) :=
  s_group_FromCurve N (k_curve_Point_Double hg_curve_place_whole) (k_curve_Point_Free N hg_curve_place_whole hg_curve_Point_Add hg_curve_Point_Free)

def ct_bytes_Compare : Ct := tct (.cons (.tup (.cons (.lst .u8) (.one (.lit (.clo 5 []))))) (.one (.tup (.cons (.lst .u8) (.one (.lit (.clo 5 []))))))) (.int .i64) fun x => bytes_Compare x.1 x.2
def cs_bytes_Compare : List (FuncId × Ct) := [(92, ct_bytealg_Compare)]
def gs_bytes_Compare : List Gv := []
noncomputable def ls_bytes_Compare : List (Nat × Lf) := []
theorem r_bytes_Compare : ∀ x, run Tryz.prog (fun g => lkG g (cs_bytes_Compare)) (glAt gs_bytes_Compare 0) (gs_bytes_Compare.length + 2) (memAt gs_bytes_Compare 0 ++ (unc gs_bytes_Compare.length (Ag.mk ((.cons (.tup (.cons (.lst .u8) (.one (.lit (.clo 5 []))))) (.one (.tup (.cons (.lst .u8) (.one (.lit (.clo 5 [])))))))) x)).2) (fun i => lkL i (ls_bytes_Compare)) 100 Tryz.f27 (unc gs_bytes_Compare.length (Ag.mk ((.cons (.tup (.cons (.lst .u8) (.one (.lit (.clo 5 []))))) (.one (.tup (.cons (.lst .u8) (.one (.lit (.clo 5 [])))))))) x)).1 none (Pt.get ((.int .i64))) = some (bytes_Compare x.1 x.2) := by
  intro x; kernel_rfl
theorem s_bytes_Compare {w0 : World}  (h92 : SoundAt Tryz.prog w0 92 ct_bytealg_Compare) : SoundAt Tryz.prog w0 27 ct_bytes_Compare := by
  have hcs : ∀ x ∈ cs_bytes_Compare, SoundAt Tryz.prog w0 x.1 x.2 := by
    intro x hx
    simp only [cs_bytes_Compare, List.mem_cons, List.not_mem_nil, or_false] at hx
    rcases hx with rfl
    · exact h92
  exact sound_tct (fn_printed hcs (glob_nil _ _) Tryz.func27 (by kernel_rfl) (by kernel_rfl) (S := 2) (fun w _ => loopsOK_nil _) (fun _ => rfl) (r_bytes_Compare)) fun _ _ => rfl
theorem k_bytes_Compare {w0 : World}  : SoundAt Tryz.prog w0 27 ct_bytes_Compare :=
  s_bytes_Compare (k_bytealg_Compare)

def ct_group_Point_Coset_1 (N : Nat) : Ct := fct (.cons (.agg (.one (.agg (.cons (.ints .u64 5) (.cons (.ints .u64 5) (.cons (.ints .u64 5) (.one (.ints .u64 5)))))))) (.one (.agg (.one (.agg (.cons (.ints .u64 5) (.cons (.ints .u64 5) (.cons (.ints .u64 5) (.one (.ints .u64 5)))))))))) (.int .i64) fun x => group_Point_Coset_1 N x.1 x.2
def cs_group_Point_Coset_1 (N : Nat) : List (FuncId × Ct) := [(26, (ct_curve_Point_Compress N)), (27, ct_bytes_Compare)]
def gs_group_Point_Coset_1 : List Gv := []
noncomputable def ls_group_Point_Coset_1 (N : Nat) : List (Nat × Lf) := []
theorem r_group_Point_Coset_1 (N : Nat) : ∀ x, run Tryz.prog (fun g => lkG g (cs_group_Point_Coset_1 N)) (glAt gs_group_Point_Coset_1 0) (gs_group_Point_Coset_1.length + 0) (memAt gs_group_Point_Coset_1 0 ++ (unc gs_group_Point_Coset_1.length (Ag.mk ((.cons (.agg (.one (.agg (.cons (.ints .u64 5) (.cons (.ints .u64 5) (.cons (.ints .u64 5) (.one (.ints .u64 5)))))))) (.one (.agg (.one (.agg (.cons (.ints .u64 5) (.cons (.ints .u64 5) (.cons (.ints .u64 5) (.one (.ints .u64 5))))))))))) x)).2) (fun i => lkL i (ls_group_Point_Coset_1 N)) 100 Tryz.f25 (unc gs_group_Point_Coset_1.length (Ag.mk ((.cons (.agg (.one (.agg (.cons (.ints .u64 5) (.cons (.ints .u64 5) (.cons (.ints .u64 5) (.one (.ints .u64 5)))))))) (.one (.agg (.one (.agg (.cons (.ints .u64 5) (.cons (.ints .u64 5) (.cons (.ints .u64 5) (.one (.ints .u64 5))))))))))) x)).1 none (Pt.get ((.int .i64))) = group_Point_Coset_1 N x.1 x.2 := by
  intro x; kernel_rfl
theorem s_group_Point_Coset_1 {w0 : World} (N : Nat)  (h26 : SoundAt Tryz.prog w0 26 (ct_curve_Point_Compress N)) (h27 : SoundAt Tryz.prog w0 27 ct_bytes_Compare) : SoundAt Tryz.prog w0 25 (ct_group_Point_Coset_1 N) := by
  have hcs : ∀ x ∈ cs_group_Point_Coset_1 N, SoundAt Tryz.prog w0 x.1 x.2 := by
    intro x hx
    simp only [cs_group_Point_Coset_1, List.mem_cons, List.not_mem_nil, or_false] at hx
    rcases hx with rfl | rfl
    · exact h26
    · exact h27
  exact fn_printed hcs (glob_nil _ _) Tryz.func25 (by kernel_rfl) (by kernel_rfl) (S := 0) (fun w _ => loopsOK_nil _) (fun _ => rfl) (r_group_Point_Coset_1 N)
theorem k_group_Point_Coset_1 {w0 : World} (N : Nat)  (hg_curve_place_whole : GlobOK Tryz.prog w0 gs_curve_place_whole) : SoundAt Tryz.prog w0 25 (ct_group_Point_Coset_1 N) :=
  s_group_Point_Coset_1 N (k_curve_Point_Compress N hg_curve_place_whole) (k_bytes_Compare)

def ct_group_Point_Coset (N : Nat) : Ct := fct (.one (.agg (.one (.agg (.one (.agg (.cons (.ints .u64 5) (.cons (.ints .u64 5) (.cons (.ints .u64 5) (.one (.ints .u64 5))))))))))) (.agg (.cons (.agg (.one (.agg (.cons (.ints .u64 5) (.cons (.ints .u64 5) (.cons (.ints .u64 5) (.one (.ints .u64 5)))))))) (.cons (.agg (.one (.agg (.cons (.ints .u64 5) (.cons (.ints .u64 5) (.cons (.ints .u64 5) (.one (.ints .u64 5)))))))) (.cons (.agg (.one (.agg (.cons (.ints .u64 5) (.cons (.ints .u64 5) (.cons (.ints .u64 5) (.one (.ints .u64 5)))))))) (.one (.agg (.one (.agg (.cons (.ints .u64 5) (.cons (.ints .u64 5) (.cons (.ints .u64 5) (.one (.ints .u64 5))))))))))))) fun x => group_Point_Coset N x
def cs_group_Point_Coset (N : Nat) : List (FuncId × Ct) := [(10, ct_curve_Point_Add), (11, ct_curve_Torsion), (25, (ct_group_Point_Coset_1 N))]
def gs_group_Point_Coset : List Gv := []
noncomputable def is_group_Point_Coset (N : Nat) : List (FuncId × Inl) := ((24, inlOf Tryz.prog (cs_group_Point_Coset N) gs_group_Point_Coset 0 100 ((90, inlOf Tryz.prog (cs_group_Point_Coset N) gs_group_Point_Coset 0 100 ((135, inlOf Tryz.prog (cs_group_Point_Coset N) gs_group_Point_Coset 0 100 ((89, inlOf Tryz.prog (cs_group_Point_Coset N) gs_group_Point_Coset 0 100 ((126, inlOf Tryz.prog (cs_group_Point_Coset N) gs_group_Point_Coset 0 100 [] Tryz.f126) :: []) Tryz.f89) :: ((126, inlOf Tryz.prog (cs_group_Point_Coset N) gs_group_Point_Coset 0 100 [] Tryz.f126) :: [])) Tryz.f135) :: ((89, inlOf Tryz.prog (cs_group_Point_Coset N) gs_group_Point_Coset 0 100 ((126, inlOf Tryz.prog (cs_group_Point_Coset N) gs_group_Point_Coset 0 100 [] Tryz.f126) :: []) Tryz.f89) :: ((126, inlOf Tryz.prog (cs_group_Point_Coset N) gs_group_Point_Coset 0 100 [] Tryz.f126) :: []))) Tryz.f90) :: ((135, inlOf Tryz.prog (cs_group_Point_Coset N) gs_group_Point_Coset 0 100 ((89, inlOf Tryz.prog (cs_group_Point_Coset N) gs_group_Point_Coset 0 100 ((126, inlOf Tryz.prog (cs_group_Point_Coset N) gs_group_Point_Coset 0 100 [] Tryz.f126) :: []) Tryz.f89) :: ((126, inlOf Tryz.prog (cs_group_Point_Coset N) gs_group_Point_Coset 0 100 [] Tryz.f126) :: [])) Tryz.f135) :: ((89, inlOf Tryz.prog (cs_group_Point_Coset N) gs_group_Point_Coset 0 100 ((126, inlOf Tryz.prog (cs_group_Point_Coset N) gs_group_Point_Coset 0 100 [] Tryz.f126) :: []) Tryz.f89) :: ((126, inlOf Tryz.prog (cs_group_Point_Coset N) gs_group_Point_Coset 0 100 [] Tryz.f126) :: [])))) Tryz.f24) :: ((90, inlOf Tryz.prog (cs_group_Point_Coset N) gs_group_Point_Coset 0 100 ((135, inlOf Tryz.prog (cs_group_Point_Coset N) gs_group_Point_Coset 0 100 ((89, inlOf Tryz.prog (cs_group_Point_Coset N) gs_group_Point_Coset 0 100 ((126, inlOf Tryz.prog (cs_group_Point_Coset N) gs_group_Point_Coset 0 100 [] Tryz.f126) :: []) Tryz.f89) :: ((126, inlOf Tryz.prog (cs_group_Point_Coset N) gs_group_Point_Coset 0 100 [] Tryz.f126) :: [])) Tryz.f135) :: ((89, inlOf Tryz.prog (cs_group_Point_Coset N) gs_group_Point_Coset 0 100 ((126, inlOf Tryz.prog (cs_group_Point_Coset N) gs_group_Point_Coset 0 100 [] Tryz.f126) :: []) Tryz.f89) :: ((126, inlOf Tryz.prog (cs_group_Point_Coset N) gs_group_Point_Coset 0 100 [] Tryz.f126) :: []))) Tryz.f90) :: ((135, inlOf Tryz.prog (cs_group_Point_Coset N) gs_group_Point_Coset 0 100 ((89, inlOf Tryz.prog (cs_group_Point_Coset N) gs_group_Point_Coset 0 100 ((126, inlOf Tryz.prog (cs_group_Point_Coset N) gs_group_Point_Coset 0 100 [] Tryz.f126) :: []) Tryz.f89) :: ((126, inlOf Tryz.prog (cs_group_Point_Coset N) gs_group_Point_Coset 0 100 [] Tryz.f126) :: [])) Tryz.f135) :: ((89, inlOf Tryz.prog (cs_group_Point_Coset N) gs_group_Point_Coset 0 100 ((126, inlOf Tryz.prog (cs_group_Point_Coset N) gs_group_Point_Coset 0 100 [] Tryz.f126) :: []) Tryz.f89) :: ((126, inlOf Tryz.prog (cs_group_Point_Coset N) gs_group_Point_Coset 0 100 [] Tryz.f126) :: [])))))
theorem isok_group_Point_Coset (N : Nat) : InlAll Tryz.prog (cs_group_Point_Coset N) gs_group_Point_Coset 0 100 (is_group_Point_Coset N) := ⟨⟨Tryz.f24, Tryz.func24, by kernel_rfl, by kernel_rfl, rfl⟩, ⟨⟨Tryz.f90, Tryz.func90, by kernel_rfl, by kernel_rfl, rfl⟩, ⟨⟨Tryz.f135, Tryz.func135, by kernel_rfl, by kernel_rfl, rfl⟩, ⟨⟨Tryz.f89, Tryz.func89, by kernel_rfl, by kernel_rfl, rfl⟩, ⟨⟨Tryz.f126, Tryz.func126, by kernel_rfl, by kernel_rfl, rfl⟩, trivial⟩⟩⟩⟩⟩
noncomputable def ls_group_Point_Coset (N : Nat) : List (Nat × Lf) := []
theorem r_group_Point_Coset (N : Nat) : ∀ x, run Tryz.prog (fun g => lkG g (cs_group_Point_Coset N)) (glAt gs_group_Point_Coset 0) (gs_group_Point_Coset.length + 0) (memAt gs_group_Point_Coset 0 ++ (unc gs_group_Point_Coset.length (Ag.mk ((.one (.agg (.one (.agg (.one (.agg (.cons (.ints .u64 5) (.cons (.ints .u64 5) (.cons (.ints .u64 5) (.one (.ints .u64 5)))))))))))) x)).2) (fun i => lkL i (ls_group_Point_Coset N)) 100 Tryz.f7 (unc gs_group_Point_Coset.length (Ag.mk ((.one (.agg (.one (.agg (.one (.agg (.cons (.ints .u64 5) (.cons (.ints .u64 5) (.cons (.ints .u64 5) (.one (.ints .u64 5)))))))))))) x)).1 none (Pt.get ((.agg (.cons (.agg (.one (.agg (.cons (.ints .u64 5) (.cons (.ints .u64 5) (.cons (.ints .u64 5) (.one (.ints .u64 5)))))))) (.cons (.agg (.one (.agg (.cons (.ints .u64 5) (.cons (.ints .u64 5) (.cons (.ints .u64 5) (.one (.ints .u64 5)))))))) (.cons (.agg (.one (.agg (.cons (.ints .u64 5) (.cons (.ints .u64 5) (.cons (.ints .u64 5) (.one (.ints .u64 5)))))))) (.one (.agg (.one (.agg (.cons (.ints .u64 5) (.cons (.ints .u64 5) (.cons (.ints .u64 5) (.one (.ints .u64 5))))))))))))))) (fun g => lkI g (is_group_Point_Coset N)) = group_Point_Coset N x := by
  intro x; kernel_rfl
theorem s_group_Point_Coset {w0 : World} (N : Nat)  (h10 : SoundAt Tryz.prog w0 10 ct_curve_Point_Add) (h11 : SoundAt Tryz.prog w0 11 ct_curve_Torsion) (h25 : SoundAt Tryz.prog w0 25 (ct_group_Point_Coset_1 N)) : SoundAt Tryz.prog w0 7 (ct_group_Point_Coset N) := by
  have hcs : ∀ x ∈ cs_group_Point_Coset N, SoundAt Tryz.prog w0 x.1 x.2 := by
    intro x hx
    simp only [cs_group_Point_Coset, List.mem_cons, List.not_mem_nil, or_false] at hx
    rcases hx with rfl | rfl | rfl
    · exact h10
    · exact h11
    · exact h25
  exact fn_printedI hcs (glob_nil _ _) (isok_group_Point_Coset N) Tryz.func7 (by kernel_rfl) (by kernel_rfl) (S := 0) (fun w _ => loopsOK_nil _) (fun _ => rfl) (r_group_Point_Coset N)
theorem k_group_Point_Coset {w0 : World} (N : Nat)  (hg_curve_place_whole : GlobOK Tryz.prog w0 gs_curve_place_whole) (hg_curve_Point_Add : GlobOK Tryz.prog w0 gs_curve_Point_Add) (hg_curve_Torsion : GlobOK Tryz.prog w0 gs_curve_Torsion) : SoundAt Tryz.prog w0 7 (ct_group_Point_Coset N) :=
  s_group_Point_Coset N (k_curve_Point_Add hg_curve_place_whole hg_curve_Point_Add) (k_curve_Torsion hg_curve_Torsion) (k_group_Point_Coset_1 N hg_curve_place_whole)

def ct_veilref01_F_Limbs (N : Nat) : Ct := fct (.one (.ints .i64 10)) (.ints .u64 5) fun x => veilref01_F_Limbs N x
def cs_veilref01_F_Limbs (N : Nat) : List (FuncId × Ct) := []
def gs_veilref01_F_Limbs : List Gv := []
def veilref01_F_Limbs_l0_H : Fm ((Unit × Unit × Unit × Int)) ((List Int × Unit × List Int)) := ⟨(.cons 1 (.lit (.ptr 0 [] 35)) (.cons 2 (.lit (.ptr 1 [] 25)) (.cons 3 (.lit (.ptr 2 [] 25)) (.one 4 (.int .i64))))), (.cons 0 (.ints .i64 10) (.cons 1 (.lit (.ints .u64 5 [0, 0, 0, 0, 0])) (.one 2 (.ints .u64 5))))⟩
def veilref01_F_Limbs_l0_O : Fm ((Unit × Unit)) ((Unit × List Int)) := ⟨(.cons 2 (.lit (.ptr 1 [] 25)) (.one 3 (.lit (.ptr 2 [] 25)))), (.cons 1 (.lit (.ints .u64 5 [0, 0, 0, 0, 0])) (.one 2 (.ints .u64 5)))⟩
def veilref01_F_Limbs_l0_T : Fm (Unit) (Unit) := ⟨.nil, .nil⟩
noncomputable def ls_veilref01_F_Limbs (N : Nat) : List (Nat × Lf) := [(0, loopCt veilref01_F_Limbs_l0_H veilref01_F_Limbs_l0_O veilref01_F_Limbs_l0_T 4 (veilref01_F_Limbs_l0 N) N)]
theorem veilref01_F_Limbs_l0_step (N : Nat) : ∀ v, exec Tryz.prog (cxOf Tryz.f40 (cs_veilref01_F_Limbs N) gs_veilref01_F_Limbs 0) (fun i => lkL i (ls_veilref01_F_Limbs N)) 100 none (loopBody Tryz.f40 0) (veilref01_F_Limbs_l0_H.st 4 v) (rdEnd veilref01_F_Limbs_l0_H veilref01_F_Limbs_l0_O veilref01_F_Limbs_l0_T 4 0) = veilref01_F_Limbs_l0 N v := by
  intro v; kernel_rfl
theorem r_veilref01_F_Limbs (N : Nat) : ∀ x, run Tryz.prog (fun g => lkG g (cs_veilref01_F_Limbs N)) (glAt gs_veilref01_F_Limbs 0) (gs_veilref01_F_Limbs.length + 0) (memAt gs_veilref01_F_Limbs 0 ++ (unc gs_veilref01_F_Limbs.length (Ag.mk ((.one (.ints .i64 10))) x)).2) (fun i => lkL i (ls_veilref01_F_Limbs N)) 100 Tryz.f40 (unc gs_veilref01_F_Limbs.length (Ag.mk ((.one (.ints .i64 10))) x)).1 none (Pt.get ((.ints .u64 5))) = veilref01_F_Limbs N x := by
  intro x; kernel_rfl
theorem s_veilref01_F_Limbs {w0 : World} (N : Nat)  : SoundAt Tryz.prog w0 40 (ct_veilref01_F_Limbs N) := by
  have hcs : ∀ x ∈ cs_veilref01_F_Limbs N, SoundAt Tryz.prog w0 x.1 x.2 := by
    intro x hx
    simp [cs_veilref01_F_Limbs] at hx
  have L0 : ∀ w, RowKit.Below w0.heap.size w0 w → LoopOK Tryz.prog (cxOf Tryz.f40 (cs_veilref01_F_Limbs N) gs_veilref01_F_Limbs 0) w 0 (.loop (loopBody Tryz.f40 0)) (loopCt veilref01_F_Limbs_l0_H veilref01_F_Limbs_l0_O veilref01_F_Limbs_l0_T 4 (veilref01_F_Limbs_l0 N) N) :=
    loop_printed hcs (ls := ls_veilref01_F_Limbs N) (n := 100) (by kernel_rfl) (veilref01_F_Limbs_l0_step N) N fun w hw => loopsOK_list (by
      intro x hx
      simp only [ls_veilref01_F_Limbs, List.mem_cons, List.not_mem_nil, or_false] at hx
      rcases hx with rfl
      · exact .inl (by kernel_rfl)
    )
  exact fn_printed hcs (glob_nil _ _) Tryz.func40 (by kernel_rfl) (by kernel_rfl) (S := 0) (fun w hw => loopsOK_list (by
    intro x hx
    simp only [ls_veilref01_F_Limbs, List.mem_cons, List.not_mem_nil, or_false] at hx
    rcases hx with rfl
    · exact .inr ⟨_, by kernel_rfl, L0 w hw⟩
  )) (fun _ => rfl) (r_veilref01_F_Limbs N)
theorem k_veilref01_F_Limbs {w0 : World} (N : Nat)  : SoundAt Tryz.prog w0 40 (ct_veilref01_F_Limbs N) :=
  s_veilref01_F_Limbs N

def ct_veilref05_before (N : Nat) : Ct := fct (.cons (.ints .u8 32) (.one (.ints .u8 32))) .bool fun x => veilref05_before N x.1 x.2
def cs_veilref05_before (N : Nat) : List (FuncId × Ct) := []
def gs_veilref05_before : List Gv := []
def veilref05_before_l0_H : Fm ((Unit × Unit × Unit × Int)) ((List Int × List Int)) := ⟨(.cons 2 (.lit (.ptr 0 [] 58)) (.cons 3 (.lit (.ptr 1 [] 58)) (.cons 4 (.lit (.bool false)) (.one 5 (.int .i64))))), (.cons 0 (.ints .u8 32) (.one 1 (.ints .u8 32)))⟩
def veilref05_before_l0_O : Fm (Unit) (Unit) := ⟨.nil, .nil⟩
def veilref05_before_l0_T : Fm (Bool) (Unit) := ⟨(.one 4 .bool), .nil⟩
noncomputable def ls_veilref05_before (N : Nat) : List (Nat × Lf) := [(0, loopCt veilref05_before_l0_H veilref05_before_l0_O veilref05_before_l0_T 4 (veilref05_before_l0 N) N)]
theorem veilref05_before_l0_step (N : Nat) : ∀ v, exec Tryz.prog (cxOf Tryz.f30 (cs_veilref05_before N) gs_veilref05_before 0) (fun i => lkL i (ls_veilref05_before N)) 100 none (loopBody Tryz.f30 0) (veilref05_before_l0_H.st 4 v) (rdEnd veilref05_before_l0_H veilref05_before_l0_O veilref05_before_l0_T 4 0) = veilref05_before_l0 N v := by
  intro v; kernel_rfl
theorem r_veilref05_before (N : Nat) : ∀ x, run Tryz.prog (fun g => lkG g (cs_veilref05_before N)) (glAt gs_veilref05_before 0) (gs_veilref05_before.length + 0) (memAt gs_veilref05_before 0 ++ (unc gs_veilref05_before.length (Ag.mk ((.cons (.ints .u8 32) (.one (.ints .u8 32)))) x)).2) (fun i => lkL i (ls_veilref05_before N)) 100 Tryz.f30 (unc gs_veilref05_before.length (Ag.mk ((.cons (.ints .u8 32) (.one (.ints .u8 32)))) x)).1 none (Pt.get (.bool)) = veilref05_before N x.1 x.2 := by
  intro x; kernel_rfl
theorem s_veilref05_before {w0 : World} (N : Nat)  : SoundAt Tryz.prog w0 30 (ct_veilref05_before N) := by
  have hcs : ∀ x ∈ cs_veilref05_before N, SoundAt Tryz.prog w0 x.1 x.2 := by
    intro x hx
    simp [cs_veilref05_before] at hx
  have L0 : ∀ w, RowKit.Below w0.heap.size w0 w → LoopOK Tryz.prog (cxOf Tryz.f30 (cs_veilref05_before N) gs_veilref05_before 0) w 0 (.loop (loopBody Tryz.f30 0)) (loopCt veilref05_before_l0_H veilref05_before_l0_O veilref05_before_l0_T 4 (veilref05_before_l0 N) N) :=
    loop_printed hcs (ls := ls_veilref05_before N) (n := 100) (by kernel_rfl) (veilref05_before_l0_step N) N fun w hw => loopsOK_list (by
      intro x hx
      simp only [ls_veilref05_before, List.mem_cons, List.not_mem_nil, or_false] at hx
      rcases hx with rfl
      · exact .inl (by kernel_rfl)
    )
  exact fn_printed hcs (glob_nil _ _) Tryz.func30 (by kernel_rfl) (by kernel_rfl) (S := 0) (fun w hw => loopsOK_list (by
    intro x hx
    simp only [ls_veilref05_before, List.mem_cons, List.not_mem_nil, or_false] at hx
    rcases hx with rfl
    · exact .inr ⟨_, by kernel_rfl, L0 w hw⟩
  )) (fun _ => rfl) (r_veilref05_before N)
theorem k_veilref05_before {w0 : World} (N : Nat)  : SoundAt Tryz.prog w0 30 (ct_veilref05_before N) :=
  s_veilref05_before N

def ct_veilref04_Point_Compress (N : Nat) : Ct := fct (.one (.agg (.cons (.ints .i64 10) (.one (.ints .i64 10))))) (.ints .u8 32) fun x => veilref04_Point_Compress N x
def cs_veilref04_Point_Compress (N : Nat) : List (FuncId × Ct) := [(50, (ct_veilref01_F_Encode N)), (94, ct_veilref01_F_Negative)]
def gs_veilref04_Point_Compress : List Gv := []
noncomputable def ls_veilref04_Point_Compress (N : Nat) : List (Nat × Lf) := []
theorem r_veilref04_Point_Compress (N : Nat) : ∀ x, run Tryz.prog (fun g => lkG g (cs_veilref04_Point_Compress N)) (glAt gs_veilref04_Point_Compress 0) (gs_veilref04_Point_Compress.length + 0) (memAt gs_veilref04_Point_Compress 0 ++ (unc gs_veilref04_Point_Compress.length (Ag.mk ((.one (.agg (.cons (.ints .i64 10) (.one (.ints .i64 10)))))) x)).2) (fun i => lkL i (ls_veilref04_Point_Compress N)) 100 Tryz.f31 (unc gs_veilref04_Point_Compress.length (Ag.mk ((.one (.agg (.cons (.ints .i64 10) (.one (.ints .i64 10)))))) x)).1 none (Pt.get ((.ints .u8 32))) = veilref04_Point_Compress N x := by
  intro x; kernel_rfl
theorem s_veilref04_Point_Compress {w0 : World} (N : Nat)  (h50 : SoundAt Tryz.prog w0 50 (ct_veilref01_F_Encode N)) (h94 : SoundAt Tryz.prog w0 94 ct_veilref01_F_Negative) : SoundAt Tryz.prog w0 31 (ct_veilref04_Point_Compress N) := by
  have hcs : ∀ x ∈ cs_veilref04_Point_Compress N, SoundAt Tryz.prog w0 x.1 x.2 := by
    intro x hx
    simp only [cs_veilref04_Point_Compress, List.mem_cons, List.not_mem_nil, or_false] at hx
    rcases hx with rfl | rfl
    · exact h50
    · exact h94
  exact fn_printed hcs (glob_nil _ _) Tryz.func31 (by kernel_rfl) (by kernel_rfl) (S := 0) (fun w _ => loopsOK_nil _) (fun _ => rfl) (r_veilref04_Point_Compress N)
theorem k_veilref04_Point_Compress {w0 : World} (N : Nat)  : SoundAt Tryz.prog w0 31 (ct_veilref04_Point_Compress N) :=
  s_veilref04_Point_Compress N (k_veilref01_F_Encode N) (k_veilref01_F_Negative)

def ct_veilref05_Point_Coset (N : Nat) : Ct := fct (.one (.agg (.one (.agg (.cons (.ints .i64 10) (.one (.ints .i64 10))))))) (.agg (.cons (.agg (.cons (.ints .i64 10) (.one (.ints .i64 10)))) (.cons (.agg (.cons (.ints .i64 10) (.one (.ints .i64 10)))) (.cons (.agg (.cons (.ints .i64 10) (.one (.ints .i64 10)))) (.one (.agg (.cons (.ints .i64 10) (.one (.ints .i64 10))))))))) fun x => veilref05_Point_Coset N x
def cs_veilref05_Point_Coset (N : Nat) : List (FuncId × Ct) := [(28, (ct_veilref05_coset N)), (29, ct_veilref05_Point_at), (30, (ct_veilref05_before N)), (31, (ct_veilref04_Point_Compress N))]
def gs_veilref05_Point_Coset : List Gv := []
noncomputable def ls_veilref05_Point_Coset (N : Nat) : List (Nat × Lf) := []
theorem r_veilref05_Point_Coset (N : Nat) : ∀ x, run Tryz.prog (fun g => lkG g (cs_veilref05_Point_Coset N)) (glAt gs_veilref05_Point_Coset 0) (gs_veilref05_Point_Coset.length + 0) (memAt gs_veilref05_Point_Coset 0 ++ (unc gs_veilref05_Point_Coset.length (Ag.mk ((.one (.agg (.one (.agg (.cons (.ints .i64 10) (.one (.ints .i64 10)))))))) x)).2) (fun i => lkL i (ls_veilref05_Point_Coset N)) 100 Tryz.f8 (unc gs_veilref05_Point_Coset.length (Ag.mk ((.one (.agg (.one (.agg (.cons (.ints .i64 10) (.one (.ints .i64 10)))))))) x)).1 none (Pt.get ((.agg (.cons (.agg (.cons (.ints .i64 10) (.one (.ints .i64 10)))) (.cons (.agg (.cons (.ints .i64 10) (.one (.ints .i64 10)))) (.cons (.agg (.cons (.ints .i64 10) (.one (.ints .i64 10)))) (.one (.agg (.cons (.ints .i64 10) (.one (.ints .i64 10))))))))))) = veilref05_Point_Coset N x := by
  intro x; kernel_rfl
theorem s_veilref05_Point_Coset {w0 : World} (N : Nat)  (h28 : SoundAt Tryz.prog w0 28 (ct_veilref05_coset N)) (h29 : SoundAt Tryz.prog w0 29 ct_veilref05_Point_at) (h30 : SoundAt Tryz.prog w0 30 (ct_veilref05_before N)) (h31 : SoundAt Tryz.prog w0 31 (ct_veilref04_Point_Compress N)) : SoundAt Tryz.prog w0 8 (ct_veilref05_Point_Coset N) := by
  have hcs : ∀ x ∈ cs_veilref05_Point_Coset N, SoundAt Tryz.prog w0 x.1 x.2 := by
    intro x hx
    simp only [cs_veilref05_Point_Coset, List.mem_cons, List.not_mem_nil, or_false] at hx
    rcases hx with rfl | rfl | rfl | rfl
    · exact h28
    · exact h29
    · exact h30
    · exact h31
  exact fn_printed hcs (glob_nil _ _) Tryz.func8 (by kernel_rfl) (by kernel_rfl) (S := 0) (fun w _ => loopsOK_nil _) (fun _ => rfl) (r_veilref05_Point_Coset N)
theorem k_veilref05_Point_Coset {w0 : World} (N : Nat)  (hg_veilref01_least : GlobOK Tryz.prog w0 gs_veilref01_least) (hg_veilref01_F_Neg : GlobOK Tryz.prog w0 gs_veilref01_F_Neg) (hg_veilref04_Neutral : GlobOK Tryz.prog w0 gs_veilref04_Neutral) : SoundAt Tryz.prog w0 8 (ct_veilref05_Point_Coset N) :=
  s_veilref05_Point_Coset N (k_veilref05_coset N hg_veilref01_least hg_veilref01_F_Neg) (k_veilref05_Point_at hg_veilref04_Neutral) (k_veilref05_before N) (k_veilref04_Point_Compress N)

def ct_veillaw05_same (N : Nat) : Ct := fct (.cons (.agg (.one (.agg (.cons (.ints .u64 5) (.cons (.ints .u64 5) (.cons (.ints .u64 5) (.one (.ints .u64 5)))))))) (.one (.agg (.cons (.ints .i64 10) (.one (.ints .i64 10)))))) .bool fun x => veillaw05_same N x.1 x.2
def cs_veillaw05_same (N : Nat) : List (FuncId × Ct) := [(39, (ct_curve_Point_Affine N)), (40, (ct_veilref01_F_Limbs N))]
def gs_veillaw05_same : List Gv := []
noncomputable def ls_veillaw05_same (N : Nat) : List (Nat × Lf) := []
theorem r_veillaw05_same (N : Nat) : ∀ x, run Tryz.prog (fun g => lkG g (cs_veillaw05_same N)) (glAt gs_veillaw05_same 0) (gs_veillaw05_same.length + 0) (memAt gs_veillaw05_same 0 ++ (unc gs_veillaw05_same.length (Ag.mk ((.cons (.agg (.one (.agg (.cons (.ints .u64 5) (.cons (.ints .u64 5) (.cons (.ints .u64 5) (.one (.ints .u64 5)))))))) (.one (.agg (.cons (.ints .i64 10) (.one (.ints .i64 10))))))) x)).2) (fun i => lkL i (ls_veillaw05_same N)) 100 Tryz.f12 (unc gs_veillaw05_same.length (Ag.mk ((.cons (.agg (.one (.agg (.cons (.ints .u64 5) (.cons (.ints .u64 5) (.cons (.ints .u64 5) (.one (.ints .u64 5)))))))) (.one (.agg (.cons (.ints .i64 10) (.one (.ints .i64 10))))))) x)).1 none (Pt.get (.bool)) = veillaw05_same N x.1 x.2 := by
  intro x; kernel_rfl
theorem s_veillaw05_same {w0 : World} (N : Nat)  (h39 : SoundAt Tryz.prog w0 39 (ct_curve_Point_Affine N)) (h40 : SoundAt Tryz.prog w0 40 (ct_veilref01_F_Limbs N)) : SoundAt Tryz.prog w0 12 (ct_veillaw05_same N) := by
  have hcs : ∀ x ∈ cs_veillaw05_same N, SoundAt Tryz.prog w0 x.1 x.2 := by
    intro x hx
    simp only [cs_veillaw05_same, List.mem_cons, List.not_mem_nil, or_false] at hx
    rcases hx with rfl | rfl
    · exact h39
    · exact h40
  exact fn_printed hcs (glob_nil _ _) Tryz.func12 (by kernel_rfl) (by kernel_rfl) (S := 0) (fun w _ => loopsOK_nil _) (fun _ => rfl) (r_veillaw05_same N)
theorem k_veillaw05_same {w0 : World} (N : Nat)  (hg_curve_place_whole : GlobOK Tryz.prog w0 gs_curve_place_whole) : SoundAt Tryz.prog w0 12 (ct_veillaw05_same N) :=
  s_veillaw05_same N (k_curve_Point_Affine N hg_curve_place_whole) (k_veilref01_F_Limbs N)

def ct_veillaw05_GroupCosets (N : Nat) : Ct := fct (.one (.ints .u8 64)) .bool fun x => veillaw05_GroupCosets N x
def cs_veillaw05_GroupCosets (N : Nat) : List (FuncId × Ct) := [(5, (ct_group_Map N)), (6, (ct_veilref05_Map N)), (7, (ct_group_Point_Coset N)), (8, (ct_veilref05_Point_Coset N)), (9, (ct_group_FromCurve N)), (10, ct_curve_Point_Add), (11, ct_curve_Torsion), (12, (ct_veillaw05_same N)), (13, ct_group_Point_Same)]
def gs_veillaw05_GroupCosets : List Gv := []
noncomputable def ls_veillaw05_GroupCosets (N : Nat) : List (Nat × Lf) := []
theorem r_veillaw05_GroupCosets (N : Nat) : ∀ x, run Tryz.prog (fun g => lkG g (cs_veillaw05_GroupCosets N)) (glAt gs_veillaw05_GroupCosets 0) (gs_veillaw05_GroupCosets.length + 0) (memAt gs_veillaw05_GroupCosets 0 ++ (unc gs_veillaw05_GroupCosets.length (Ag.mk ((.one (.ints .u8 64))) x)).2) (fun i => lkL i (ls_veillaw05_GroupCosets N)) 100 Tryz.f3 (unc gs_veillaw05_GroupCosets.length (Ag.mk ((.one (.ints .u8 64))) x)).1 none (Pt.get (.bool)) = veillaw05_GroupCosets N x := by
  intro x; kernel_rfl
theorem s_veillaw05_GroupCosets {w0 : World} (N : Nat)  (h5 : SoundAt Tryz.prog w0 5 (ct_group_Map N)) (h6 : SoundAt Tryz.prog w0 6 (ct_veilref05_Map N)) (h7 : SoundAt Tryz.prog w0 7 (ct_group_Point_Coset N)) (h8 : SoundAt Tryz.prog w0 8 (ct_veilref05_Point_Coset N)) (h9 : SoundAt Tryz.prog w0 9 (ct_group_FromCurve N)) (h10 : SoundAt Tryz.prog w0 10 ct_curve_Point_Add) (h11 : SoundAt Tryz.prog w0 11 ct_curve_Torsion) (h12 : SoundAt Tryz.prog w0 12 (ct_veillaw05_same N)) (h13 : SoundAt Tryz.prog w0 13 ct_group_Point_Same) : SoundAt Tryz.prog w0 3 (ct_veillaw05_GroupCosets N) := by
  have hcs : ∀ x ∈ cs_veillaw05_GroupCosets N, SoundAt Tryz.prog w0 x.1 x.2 := by
    intro x hx
    simp only [cs_veillaw05_GroupCosets, List.mem_cons, List.not_mem_nil, or_false] at hx
    rcases hx with rfl | rfl | rfl | rfl | rfl | rfl | rfl | rfl | rfl
    · exact h5
    · exact h6
    · exact h7
    · exact h8
    · exact h9
    · exact h10
    · exact h11
    · exact h12
    · exact h13
  exact fn_printed hcs (glob_nil _ _) Tryz.func3 (by kernel_rfl) (by kernel_rfl) (S := 0) (fun w _ => loopsOK_nil _) (fun _ => rfl) (r_veillaw05_GroupCosets N)
theorem k_veillaw05_GroupCosets {w0 : World} (N : Nat)  (hg_field_SqrtRatio : GlobOK Tryz.prog w0 gs_field_SqrtRatio) (hg_field_Const : GlobOK Tryz.prog w0 gs_field_Const) (hg_curve_at : GlobOK Tryz.prog w0 gs_curve_at) (hg_curve_FromAffine : GlobOK Tryz.prog w0 gs_curve_FromAffine) (hg_curve_place_whole : GlobOK Tryz.prog w0 gs_curve_place_whole) (hg_curve_Point_Add : GlobOK Tryz.prog w0 gs_curve_Point_Add) (hg_veilref01_least : GlobOK Tryz.prog w0 gs_veilref01_least) (hg_veilref01_F_Neg : GlobOK Tryz.prog w0 gs_veilref01_F_Neg) (hg_veilref01_root : GlobOK Tryz.prog w0 gs_veilref01_root) (hg_veilref01_SqrtRatio : GlobOK Tryz.prog w0 gs_veilref01_SqrtRatio) (hg_veilref01_Const : GlobOK Tryz.prog w0 gs_veilref01_Const) (hg_veilref05_MapHalf : GlobOK Tryz.prog w0 gs_veilref05_MapHalf) (hg_veilref04_Neutral : GlobOK Tryz.prog w0 gs_veilref04_Neutral) (hg_veilref04_Point_Add : GlobOK Tryz.prog w0 gs_veilref04_Point_Add) (hg_curve_Torsion : GlobOK Tryz.prog w0 gs_curve_Torsion) (hg_curve_Point_Free : GlobOK Tryz.prog w0 gs_curve_Point_Free) : SoundAt Tryz.prog w0 3 (ct_veillaw05_GroupCosets N) :=
  s_veillaw05_GroupCosets N (k_group_Map N hg_field_SqrtRatio hg_field_Const hg_curve_at hg_curve_FromAffine hg_curve_place_whole hg_curve_Point_Add) (k_veilref05_Map N hg_veilref01_least hg_veilref01_F_Neg hg_veilref01_root hg_veilref01_SqrtRatio hg_veilref01_Const hg_veilref05_MapHalf hg_veilref04_Neutral hg_veilref04_Point_Add) (k_group_Point_Coset N hg_curve_place_whole hg_curve_Point_Add hg_curve_Torsion) (k_veilref05_Point_Coset N hg_veilref01_least hg_veilref01_F_Neg hg_veilref04_Neutral) (k_group_FromCurve N hg_curve_place_whole hg_curve_Point_Add hg_curve_Point_Free) (k_curve_Point_Add hg_curve_place_whole hg_curve_Point_Add) (k_curve_Torsion hg_curve_Torsion) (k_veillaw05_same N hg_curve_place_whole) (k_group_Point_Same hg_curve_place_whole hg_curve_Point_Add)

end Go.Vx
