import Derived.Test.YtkilkhhnbhdbbaaDoorFp
import Derived.Test.YtkilkhhnbhdbbaaDoorProg
set_option autoImplicit false
set_option linter.unusedVariables false
set_option linter.unusedSimpArgs false
namespace Go.Vx
open Go Go.Proofs

def ct_bits_Add64 : Ct := fct (.cons (.int .u64) (.cons (.int .u64) (.one (.int .u64)))) (.tup (.cons (.int .u64) (.one (.int .u64)))) fun x => bits_Add64 x.1 x.2.1 x.2.2

theorem k_bits_Add64 {w0 : World} : SoundAt Tryd.prog w0 83 ct_bits_Add64 :=
  sound_add64 Tryd.func83 (by kernel_rfl) (by kernel_rfl) (by kernel_rfl) (by kernel_rfl)

def ct_field_Elem_light : Ct := tct (.one (.ints .u64 5)) (.ints .u64 5) fun x => field_Elem_light x
def cs_field_Elem_light : List (FuncId × Ct) := []
def gs_field_Elem_light : List Gv := []
noncomputable def ls_field_Elem_light : List (Nat × Lf) := []
theorem r_field_Elem_light : ∀ x, run Tryd.prog (fun g => lkG g (cs_field_Elem_light)) (glAt gs_field_Elem_light 0) (gs_field_Elem_light.length + 0) (memAt gs_field_Elem_light 0 ++ (unc gs_field_Elem_light.length (Ag.mk ((.one (.ints .u64 5))) x)).2) (fun i => lkL i (ls_field_Elem_light)) 100 Tryd.f80 (unc gs_field_Elem_light.length (Ag.mk ((.one (.ints .u64 5))) x)).1 none (Pt.get ((.ints .u64 5))) = some (field_Elem_light x) := by
  intro x; kernel_rfl
theorem s_field_Elem_light {w0 : World}  : SoundAt Tryd.prog w0 80 ct_field_Elem_light := by
  have hcs : ∀ x ∈ cs_field_Elem_light, SoundAt Tryd.prog w0 x.1 x.2 := by
    intro x hx
    simp [cs_field_Elem_light] at hx
  exact sound_tct (fn_printed hcs (glob_nil _ _) Tryd.func80 (by kernel_rfl) (by kernel_rfl) (S := 0) (fun w _ => loopsOK_nil _) (fun _ => rfl) (r_field_Elem_light)) fun _ _ => rfl
theorem k_field_Elem_light {w0 : World}  : SoundAt Tryd.prog w0 80 ct_field_Elem_light :=
  s_field_Elem_light

def ct_field_Elem_Least : Ct := tct (.one (.ints .u64 5)) (.ints .u64 5) fun x => field_Elem_Least x
def cs_field_Elem_Least : List (FuncId × Ct) := [(80, ct_field_Elem_light)]
def gs_field_Elem_Least : List Gv := []
noncomputable def ls_field_Elem_Least : List (Nat × Lf) := []
theorem r_field_Elem_Least : ∀ x, run Tryd.prog (fun g => lkG g (cs_field_Elem_Least)) (glAt gs_field_Elem_Least 0) (gs_field_Elem_Least.length + 0) (memAt gs_field_Elem_Least 0 ++ (unc gs_field_Elem_Least.length (Ag.mk ((.one (.ints .u64 5))) x)).2) (fun i => lkL i (ls_field_Elem_Least)) 100 Tryd.f60 (unc gs_field_Elem_Least.length (Ag.mk ((.one (.ints .u64 5))) x)).1 none (Pt.get ((.ints .u64 5))) = some (field_Elem_Least x) := by
  intro x; kernel_rfl
theorem s_field_Elem_Least {w0 : World}  (h80 : SoundAt Tryd.prog w0 80 ct_field_Elem_light) : SoundAt Tryd.prog w0 60 ct_field_Elem_Least := by
  have hcs : ∀ x ∈ cs_field_Elem_Least, SoundAt Tryd.prog w0 x.1 x.2 := by
    intro x hx
    simp only [cs_field_Elem_Least, List.mem_cons, List.not_mem_nil, or_false] at hx
    rcases hx with rfl
    · exact h80
  exact sound_tct (fn_printed hcs (glob_nil _ _) Tryd.func60 (by kernel_rfl) (by kernel_rfl) (S := 0) (fun w _ => loopsOK_nil _) (fun _ => rfl) (r_field_Elem_Least)) fun _ _ => rfl
theorem k_field_Elem_Least {w0 : World}  : SoundAt Tryd.prog w0 60 ct_field_Elem_Least :=
  s_field_Elem_Least (k_field_Elem_light)

def ct_field_Elem_slim : Ct := tct (.one (.ints .u64 5)) .bool fun x => field_Elem_slim x
def cs_field_Elem_slim : List (FuncId × Ct) := []
def gs_field_Elem_slim : List Gv := []
noncomputable def ls_field_Elem_slim : List (Nat × Lf) := []
theorem r_field_Elem_slim : ∀ x, run Tryd.prog (fun g => lkG g (cs_field_Elem_slim)) (glAt gs_field_Elem_slim 0) (gs_field_Elem_slim.length + 0) (memAt gs_field_Elem_slim 0 ++ (unc gs_field_Elem_slim.length (Ag.mk ((.one (.ints .u64 5))) x)).2) (fun i => lkL i (ls_field_Elem_slim)) 100 Tryd.f63 (unc gs_field_Elem_slim.length (Ag.mk ((.one (.ints .u64 5))) x)).1 none (Pt.get (.bool)) = some (field_Elem_slim x) := by
  intro x; kernel_rfl
theorem s_field_Elem_slim {w0 : World}  : SoundAt Tryd.prog w0 63 ct_field_Elem_slim := by
  have hcs : ∀ x ∈ cs_field_Elem_slim, SoundAt Tryd.prog w0 x.1 x.2 := by
    intro x hx
    simp [cs_field_Elem_slim] at hx
  exact sound_tct (fn_printed hcs (glob_nil _ _) Tryd.func63 (by kernel_rfl) (by kernel_rfl) (S := 0) (fun w _ => loopsOK_nil _) (fun _ => rfl) (r_field_Elem_slim)) fun _ _ => rfl
theorem k_field_Elem_slim {w0 : World}  : SoundAt Tryd.prog w0 63 ct_field_Elem_slim :=
  s_field_Elem_slim

def ct_field_last : Ct := tct (.cons (.int .u64) (.cons (.int .u64) (.cons (.int .u64) (.cons (.int .u64) (.one (.int .u64)))))) (.ints .u64 5) fun x => field_last x.1 x.2.1 x.2.2.1 x.2.2.2.1 x.2.2.2.2
def cs_field_last : List (FuncId × Ct) := []
def gs_field_last : List Gv := []
noncomputable def ls_field_last : List (Nat × Lf) := []
theorem r_field_last : ∀ x, run Tryd.prog (fun g => lkG g (cs_field_last)) (glAt gs_field_last 0) (gs_field_last.length + 0) (memAt gs_field_last 0 ++ (unc gs_field_last.length (Ag.mk ((.cons (.int .u64) (.cons (.int .u64) (.cons (.int .u64) (.cons (.int .u64) (.one (.int .u64))))))) x)).2) (fun i => lkL i (ls_field_last)) 100 Tryd.f85 (unc gs_field_last.length (Ag.mk ((.cons (.int .u64) (.cons (.int .u64) (.cons (.int .u64) (.cons (.int .u64) (.one (.int .u64))))))) x)).1 none (Pt.get ((.ints .u64 5))) = some (field_last x.1 x.2.1 x.2.2.1 x.2.2.2.1 x.2.2.2.2) := by
  intro x; kernel_rfl
theorem s_field_last {w0 : World}  : SoundAt Tryd.prog w0 85 ct_field_last := by
  have hcs : ∀ x ∈ cs_field_last, SoundAt Tryd.prog w0 x.1 x.2 := by
    intro x hx
    simp [cs_field_last] at hx
  exact sound_tct (fn_printed hcs (glob_nil _ _) Tryd.func85 (by kernel_rfl) (by kernel_rfl) (S := 0) (fun w _ => loopsOK_nil _) (fun _ => rfl) (r_field_last)) fun _ _ => rfl
theorem k_field_last {w0 : World}  : SoundAt Tryd.prog w0 85 ct_field_last :=
  s_field_last

def ct_field_closed : Ct := tct (.cons (.int .u64) (.cons (.int .u64) (.cons (.int .u64) (.cons (.int .u64) (.one (.int .u64)))))) (.ints .u64 5) fun x => field_closed x.1 x.2.1 x.2.2.1 x.2.2.2.1 x.2.2.2.2
def cs_field_closed : List (FuncId × Ct) := [(85, ct_field_last)]
def gs_field_closed : List Gv := []
noncomputable def ls_field_closed : List (Nat × Lf) := []
theorem r_field_closed : ∀ x, run Tryd.prog (fun g => lkG g (cs_field_closed)) (glAt gs_field_closed 0) (gs_field_closed.length + 0) (memAt gs_field_closed 0 ++ (unc gs_field_closed.length (Ag.mk ((.cons (.int .u64) (.cons (.int .u64) (.cons (.int .u64) (.cons (.int .u64) (.one (.int .u64))))))) x)).2) (fun i => lkL i (ls_field_closed)) 100 Tryd.f66 (unc gs_field_closed.length (Ag.mk ((.cons (.int .u64) (.cons (.int .u64) (.cons (.int .u64) (.cons (.int .u64) (.one (.int .u64))))))) x)).1 none (Pt.get ((.ints .u64 5))) = field_closed_o x.1 x.2.1 x.2.2.1 x.2.2.2.1 x.2.2.2.2 := by
  intro x; kernel_rfl
theorem s_field_closed {w0 : World}  (h85 : SoundAt Tryd.prog w0 85 ct_field_last) : SoundAt Tryd.prog w0 66 ct_field_closed := by
  have hcs : ∀ x ∈ cs_field_closed, SoundAt Tryd.prog w0 x.1 x.2 := by
    intro x hx
    simp only [cs_field_closed, List.mem_cons, List.not_mem_nil, or_false] at hx
    rcases hx with rfl
    · exact h85
  exact sound_tct (fn_printed hcs (glob_nil _ _) Tryd.func66 (by kernel_rfl) (by kernel_rfl) (S := 0) (fun w _ => loopsOK_nil _) (fun _ => rfl) (r_field_closed)) fun _ _ => field_closed_tot _ _ _ _ _
theorem k_field_closed {w0 : World}  : SoundAt Tryd.prog w0 66 ct_field_closed :=
  s_field_closed (k_field_last)

def ct_field_Elem_Add : Ct := tct (.cons (.ints .u64 5) (.one (.ints .u64 5))) (.ints .u64 5) fun x => field_Elem_Add x.1 x.2
def cs_field_Elem_Add : List (FuncId × Ct) := [(60, ct_field_Elem_Least), (63, ct_field_Elem_slim), (66, ct_field_closed)]
def gs_field_Elem_Add : List Gv := []
noncomputable def ls_field_Elem_Add : List (Nat × Lf) := []
theorem r_field_Elem_Add : ∀ x, run Tryd.prog (fun g => lkG g (cs_field_Elem_Add)) (glAt gs_field_Elem_Add 0) (gs_field_Elem_Add.length + 0) (memAt gs_field_Elem_Add 0 ++ (unc gs_field_Elem_Add.length (Ag.mk ((.cons (.ints .u64 5) (.one (.ints .u64 5)))) x)).2) (fun i => lkL i (ls_field_Elem_Add)) 100 Tryd.f21 (unc gs_field_Elem_Add.length (Ag.mk ((.cons (.ints .u64 5) (.one (.ints .u64 5)))) x)).1 none (Pt.get ((.ints .u64 5))) = field_Elem_Add_o x.1 x.2 := by
  intro x; kernel_rfl
theorem s_field_Elem_Add {w0 : World}  (h60 : SoundAt Tryd.prog w0 60 ct_field_Elem_Least) (h63 : SoundAt Tryd.prog w0 63 ct_field_Elem_slim) (h66 : SoundAt Tryd.prog w0 66 ct_field_closed) : SoundAt Tryd.prog w0 21 ct_field_Elem_Add := by
  have hcs : ∀ x ∈ cs_field_Elem_Add, SoundAt Tryd.prog w0 x.1 x.2 := by
    intro x hx
    simp only [cs_field_Elem_Add, List.mem_cons, List.not_mem_nil, or_false] at hx
    rcases hx with rfl | rfl | rfl
    · exact h60
    · exact h63
    · exact h66
  exact sound_tct (fn_printed hcs (glob_nil _ _) Tryd.func21 (by kernel_rfl) (by kernel_rfl) (S := 0) (fun w _ => loopsOK_nil _) (fun _ => rfl) (r_field_Elem_Add)) fun _ _ => field_Elem_Add_tot _ _
theorem k_field_Elem_Add {w0 : World}  : SoundAt Tryd.prog w0 21 ct_field_Elem_Add :=
  s_field_Elem_Add (k_field_Elem_Least) (k_field_Elem_slim) (k_field_closed)

def ct_field_Elem_Sub : Ct := tct (.cons (.ints .u64 5) (.one (.ints .u64 5))) (.ints .u64 5) fun x => field_Elem_Sub x.1 x.2
def cs_field_Elem_Sub : List (FuncId × Ct) := [(60, ct_field_Elem_Least), (63, ct_field_Elem_slim), (66, ct_field_closed)]
def gs_field_Elem_Sub : List Gv := []
noncomputable def ls_field_Elem_Sub : List (Nat × Lf) := []
theorem r_field_Elem_Sub : ∀ x, run Tryd.prog (fun g => lkG g (cs_field_Elem_Sub)) (glAt gs_field_Elem_Sub 0) (gs_field_Elem_Sub.length + 0) (memAt gs_field_Elem_Sub 0 ++ (unc gs_field_Elem_Sub.length (Ag.mk ((.cons (.ints .u64 5) (.one (.ints .u64 5)))) x)).2) (fun i => lkL i (ls_field_Elem_Sub)) 100 Tryd.f22 (unc gs_field_Elem_Sub.length (Ag.mk ((.cons (.ints .u64 5) (.one (.ints .u64 5)))) x)).1 none (Pt.get ((.ints .u64 5))) = field_Elem_Sub_o x.1 x.2 := by
  intro x; kernel_rfl
theorem s_field_Elem_Sub {w0 : World}  (h60 : SoundAt Tryd.prog w0 60 ct_field_Elem_Least) (h63 : SoundAt Tryd.prog w0 63 ct_field_Elem_slim) (h66 : SoundAt Tryd.prog w0 66 ct_field_closed) : SoundAt Tryd.prog w0 22 ct_field_Elem_Sub := by
  have hcs : ∀ x ∈ cs_field_Elem_Sub, SoundAt Tryd.prog w0 x.1 x.2 := by
    intro x hx
    simp only [cs_field_Elem_Sub, List.mem_cons, List.not_mem_nil, or_false] at hx
    rcases hx with rfl | rfl | rfl
    · exact h60
    · exact h63
    · exact h66
  exact sound_tct (fn_printed hcs (glob_nil _ _) Tryd.func22 (by kernel_rfl) (by kernel_rfl) (S := 0) (fun w _ => loopsOK_nil _) (fun _ => rfl) (r_field_Elem_Sub)) fun _ _ => field_Elem_Sub_tot _ _
theorem k_field_Elem_Sub {w0 : World}  : SoundAt Tryd.prog w0 22 ct_field_Elem_Sub :=
  s_field_Elem_Sub (k_field_Elem_Least) (k_field_Elem_slim) (k_field_closed)

def ct_field_Elem_Neg : Ct := tct (.one (.ints .u64 5)) (.ints .u64 5) fun x => field_Elem_Neg x
def cs_field_Elem_Neg : List (FuncId × Ct) := [(22, ct_field_Elem_Sub)]
def gs_field_Elem_Neg : List Gv := []
noncomputable def ls_field_Elem_Neg : List (Nat × Lf) := []
theorem r_field_Elem_Neg : ∀ x, run Tryd.prog (fun g => lkG g (cs_field_Elem_Neg)) (glAt gs_field_Elem_Neg 0) (gs_field_Elem_Neg.length + 0) (memAt gs_field_Elem_Neg 0 ++ (unc gs_field_Elem_Neg.length (Ag.mk ((.one (.ints .u64 5))) x)).2) (fun i => lkL i (ls_field_Elem_Neg)) 100 Tryd.f29 (unc gs_field_Elem_Neg.length (Ag.mk ((.one (.ints .u64 5))) x)).1 none (Pt.get ((.ints .u64 5))) = some (field_Elem_Neg x) := by
  intro x; kernel_rfl
theorem s_field_Elem_Neg {w0 : World}  (h22 : SoundAt Tryd.prog w0 22 ct_field_Elem_Sub) : SoundAt Tryd.prog w0 29 ct_field_Elem_Neg := by
  have hcs : ∀ x ∈ cs_field_Elem_Neg, SoundAt Tryd.prog w0 x.1 x.2 := by
    intro x hx
    simp only [cs_field_Elem_Neg, List.mem_cons, List.not_mem_nil, or_false] at hx
    rcases hx with rfl
    · exact h22
  exact sound_tct (fn_printed hcs (glob_nil _ _) Tryd.func29 (by kernel_rfl) (by kernel_rfl) (S := 0) (fun w _ => loopsOK_nil _) (fun _ => rfl) (r_field_Elem_Neg)) fun _ _ => rfl
theorem k_field_Elem_Neg {w0 : World}  : SoundAt Tryd.prog w0 29 ct_field_Elem_Neg :=
  s_field_Elem_Neg (k_field_Elem_Sub)

def ct_bits_Mul64 : Ct := tct (.cons (.int .u64) (.one (.int .u64))) (.tup (.cons (.int .u64) (.one (.int .u64)))) fun x => bits_Mul64 x.1 x.2
def cs_bits_Mul64 : List (FuncId × Ct) := []
def gs_bits_Mul64 : List Gv := []
noncomputable def ls_bits_Mul64 : List (Nat × Lf) := []
theorem r_bits_Mul64 : ∀ x, run Tryd.prog (fun g => lkG g (cs_bits_Mul64)) (glAt gs_bits_Mul64 0) (gs_bits_Mul64.length + 0) (memAt gs_bits_Mul64 0 ++ (unc gs_bits_Mul64.length (Ag.mk ((.cons (.int .u64) (.one (.int .u64)))) x)).2) (fun i => lkL i (ls_bits_Mul64)) 100 Tryd.f82 (unc gs_bits_Mul64.length (Ag.mk ((.cons (.int .u64) (.one (.int .u64)))) x)).1 none (Pt.get ((.tup (.cons (.int .u64) (.one (.int .u64)))))) = some (bits_Mul64 x.1 x.2) := by
  intro x; kernel_rfl
theorem s_bits_Mul64 {w0 : World}  : SoundAt Tryd.prog w0 82 ct_bits_Mul64 := by
  have hcs : ∀ x ∈ cs_bits_Mul64, SoundAt Tryd.prog w0 x.1 x.2 := by
    intro x hx
    simp [cs_bits_Mul64] at hx
  exact sound_tct (fn_printed hcs (glob_nil _ _) Tryd.func82 (by kernel_rfl) (by kernel_rfl) (S := 0) (fun w _ => loopsOK_nil _) (fun _ => rfl) (r_bits_Mul64)) fun _ _ => rfl
theorem k_bits_Mul64 {w0 : World}  : SoundAt Tryd.prog w0 82 ct_bits_Mul64 :=
  s_bits_Mul64

def ct_field_double_plus : Ct := fct (.cons (.agg (.cons (.int .u64) (.one (.int .u64)))) (.cons (.int .u64) (.one (.int .u64)))) (.agg (.cons (.int .u64) (.one (.int .u64)))) fun x => field_double_plus x.1 x.2.1 x.2.2
def cs_field_double_plus : List (FuncId × Ct) := [(82, ct_bits_Mul64), (83, ct_bits_Add64)]
def gs_field_double_plus : List Gv := []
noncomputable def ls_field_double_plus : List (Nat × Lf) := []
theorem r_field_double_plus : ∀ x, run Tryd.prog (fun g => lkG g (cs_field_double_plus)) (glAt gs_field_double_plus 0) (gs_field_double_plus.length + 0) (memAt gs_field_double_plus 0 ++ (unc gs_field_double_plus.length (Ag.mk ((.cons (.agg (.cons (.int .u64) (.one (.int .u64)))) (.cons (.int .u64) (.one (.int .u64))))) x)).2) (fun i => lkL i (ls_field_double_plus)) 100 Tryd.f64 (unc gs_field_double_plus.length (Ag.mk ((.cons (.agg (.cons (.int .u64) (.one (.int .u64)))) (.cons (.int .u64) (.one (.int .u64))))) x)).1 none (Pt.get ((.agg (.cons (.int .u64) (.one (.int .u64)))))) = field_double_plus x.1 x.2.1 x.2.2 := by
  intro x; kernel_rfl
theorem s_field_double_plus {w0 : World}  (h82 : SoundAt Tryd.prog w0 82 ct_bits_Mul64) (h83 : SoundAt Tryd.prog w0 83 ct_bits_Add64) : SoundAt Tryd.prog w0 64 ct_field_double_plus := by
  have hcs : ∀ x ∈ cs_field_double_plus, SoundAt Tryd.prog w0 x.1 x.2 := by
    intro x hx
    simp only [cs_field_double_plus, List.mem_cons, List.not_mem_nil, or_false] at hx
    rcases hx with rfl | rfl
    · exact h82
    · exact h83
  exact fn_printed hcs (glob_nil _ _) Tryd.func64 (by kernel_rfl) (by kernel_rfl) (S := 0) (fun w _ => loopsOK_nil _) (fun _ => rfl) (r_field_double_plus)
theorem k_field_double_plus {w0 : World}  : SoundAt Tryd.prog w0 64 ct_field_double_plus :=
  s_field_double_plus (k_bits_Mul64) (k_bits_Add64)

def ct_field_double_over : Ct := tct (.one (.agg (.cons (.int .u64) (.one (.int .u64))))) (.int .u64) fun x => field_double_over x
def cs_field_double_over : List (FuncId × Ct) := []
def gs_field_double_over : List Gv := []
noncomputable def ls_field_double_over : List (Nat × Lf) := []
theorem r_field_double_over : ∀ x, run Tryd.prog (fun g => lkG g (cs_field_double_over)) (glAt gs_field_double_over 0) (gs_field_double_over.length + 0) (memAt gs_field_double_over 0 ++ (unc gs_field_double_over.length (Ag.mk ((.one (.agg (.cons (.int .u64) (.one (.int .u64)))))) x)).2) (fun i => lkL i (ls_field_double_over)) 100 Tryd.f84 (unc gs_field_double_over.length (Ag.mk ((.one (.agg (.cons (.int .u64) (.one (.int .u64)))))) x)).1 none (Pt.get ((.int .u64))) = some (field_double_over x) := by
  intro x; kernel_rfl
theorem s_field_double_over {w0 : World}  : SoundAt Tryd.prog w0 84 ct_field_double_over := by
  have hcs : ∀ x ∈ cs_field_double_over, SoundAt Tryd.prog w0 x.1 x.2 := by
    intro x hx
    simp [cs_field_double_over] at hx
  exact sound_tct (fn_printed hcs (glob_nil _ _) Tryd.func84 (by kernel_rfl) (by kernel_rfl) (S := 0) (fun w _ => loopsOK_nil _) (fun _ => rfl) (r_field_double_over)) fun _ _ => rfl
theorem k_field_double_over {w0 : World}  : SoundAt Tryd.prog w0 84 ct_field_double_over :=
  s_field_double_over

def ct_field_carried : Ct := fct (.cons (.agg (.cons (.int .u64) (.one (.int .u64)))) (.cons (.agg (.cons (.int .u64) (.one (.int .u64)))) (.cons (.agg (.cons (.int .u64) (.one (.int .u64)))) (.cons (.agg (.cons (.int .u64) (.one (.int .u64)))) (.one (.agg (.cons (.int .u64) (.one (.int .u64))))))))) (.ints .u64 5) fun x => field_carried x.1 x.2.1 x.2.2.1 x.2.2.2.1 x.2.2.2.2
def cs_field_carried : List (FuncId × Ct) := [(64, ct_field_double_plus), (66, ct_field_closed), (84, ct_field_double_over)]
def gs_field_carried : List Gv := []
noncomputable def ls_field_carried : List (Nat × Lf) := []
theorem r_field_carried : ∀ x, run Tryd.prog (fun g => lkG g (cs_field_carried)) (glAt gs_field_carried 0) (gs_field_carried.length + 0) (memAt gs_field_carried 0 ++ (unc gs_field_carried.length (Ag.mk ((.cons (.agg (.cons (.int .u64) (.one (.int .u64)))) (.cons (.agg (.cons (.int .u64) (.one (.int .u64)))) (.cons (.agg (.cons (.int .u64) (.one (.int .u64)))) (.cons (.agg (.cons (.int .u64) (.one (.int .u64)))) (.one (.agg (.cons (.int .u64) (.one (.int .u64)))))))))) x)).2) (fun i => lkL i (ls_field_carried)) 100 Tryd.f65 (unc gs_field_carried.length (Ag.mk ((.cons (.agg (.cons (.int .u64) (.one (.int .u64)))) (.cons (.agg (.cons (.int .u64) (.one (.int .u64)))) (.cons (.agg (.cons (.int .u64) (.one (.int .u64)))) (.cons (.agg (.cons (.int .u64) (.one (.int .u64)))) (.one (.agg (.cons (.int .u64) (.one (.int .u64)))))))))) x)).1 none (Pt.get ((.ints .u64 5))) = field_carried x.1 x.2.1 x.2.2.1 x.2.2.2.1 x.2.2.2.2 := by
  intro x; kernel_rfl
theorem s_field_carried {w0 : World}  (h64 : SoundAt Tryd.prog w0 64 ct_field_double_plus) (h66 : SoundAt Tryd.prog w0 66 ct_field_closed) (h84 : SoundAt Tryd.prog w0 84 ct_field_double_over) : SoundAt Tryd.prog w0 65 ct_field_carried := by
  have hcs : ∀ x ∈ cs_field_carried, SoundAt Tryd.prog w0 x.1 x.2 := by
    intro x hx
    simp only [cs_field_carried, List.mem_cons, List.not_mem_nil, or_false] at hx
    rcases hx with rfl | rfl | rfl
    · exact h64
    · exact h66
    · exact h84
  exact fn_printed hcs (glob_nil _ _) Tryd.func65 (by kernel_rfl) (by kernel_rfl) (S := 0) (fun w _ => loopsOK_nil _) (fun _ => rfl) (r_field_carried)
theorem k_field_carried {w0 : World}  : SoundAt Tryd.prog w0 65 ct_field_carried :=
  s_field_carried (k_field_double_plus) (k_field_closed) (k_field_double_over)

def ct_field_Elem_Mul : Ct := fct (.cons (.ints .u64 5) (.one (.ints .u64 5))) (.ints .u64 5) fun x => field_Elem_Mul x.1 x.2
def cs_field_Elem_Mul : List (FuncId × Ct) := [(60, ct_field_Elem_Least), (63, ct_field_Elem_slim), (64, ct_field_double_plus), (65, ct_field_carried)]
def gs_field_Elem_Mul : List Gv := []
noncomputable def ls_field_Elem_Mul : List (Nat × Lf) := []
theorem r_field_Elem_Mul : ∀ x, run Tryd.prog (fun g => lkG g (cs_field_Elem_Mul)) (glAt gs_field_Elem_Mul 0) (gs_field_Elem_Mul.length + 0) (memAt gs_field_Elem_Mul 0 ++ (unc gs_field_Elem_Mul.length (Ag.mk ((.cons (.ints .u64 5) (.one (.ints .u64 5)))) x)).2) (fun i => lkL i (ls_field_Elem_Mul)) 100 Tryd.f20 (unc gs_field_Elem_Mul.length (Ag.mk ((.cons (.ints .u64 5) (.one (.ints .u64 5)))) x)).1 none (Pt.get ((.ints .u64 5))) = field_Elem_Mul x.1 x.2 := by
  intro x; kernel_rfl
theorem s_field_Elem_Mul {w0 : World}  (h60 : SoundAt Tryd.prog w0 60 ct_field_Elem_Least) (h63 : SoundAt Tryd.prog w0 63 ct_field_Elem_slim) (h64 : SoundAt Tryd.prog w0 64 ct_field_double_plus) (h65 : SoundAt Tryd.prog w0 65 ct_field_carried) : SoundAt Tryd.prog w0 20 ct_field_Elem_Mul := by
  have hcs : ∀ x ∈ cs_field_Elem_Mul, SoundAt Tryd.prog w0 x.1 x.2 := by
    intro x hx
    simp only [cs_field_Elem_Mul, List.mem_cons, List.not_mem_nil, or_false] at hx
    rcases hx with rfl | rfl | rfl | rfl
    · exact h60
    · exact h63
    · exact h64
    · exact h65
  exact fn_printed hcs (glob_nil _ _) Tryd.func20 (by kernel_rfl) (by kernel_rfl) (S := 0) (fun w _ => loopsOK_nil _) (fun _ => rfl) (r_field_Elem_Mul)
theorem k_field_Elem_Mul {w0 : World}  : SoundAt Tryd.prog w0 20 ct_field_Elem_Mul :=
  s_field_Elem_Mul (k_field_Elem_Least) (k_field_Elem_slim) (k_field_double_plus) (k_field_carried)

def ct_field_Elem_Square : Ct := fct (.one (.ints .u64 5)) (.ints .u64 5) fun x => field_Elem_Square x
def cs_field_Elem_Square : List (FuncId × Ct) := [(60, ct_field_Elem_Least), (63, ct_field_Elem_slim), (64, ct_field_double_plus), (65, ct_field_carried)]
def gs_field_Elem_Square : List Gv := []
noncomputable def ls_field_Elem_Square : List (Nat × Lf) := []
theorem r_field_Elem_Square : ∀ x, run Tryd.prog (fun g => lkG g (cs_field_Elem_Square)) (glAt gs_field_Elem_Square 0) (gs_field_Elem_Square.length + 0) (memAt gs_field_Elem_Square 0 ++ (unc gs_field_Elem_Square.length (Ag.mk ((.one (.ints .u64 5))) x)).2) (fun i => lkL i (ls_field_Elem_Square)) 100 Tryd.f24 (unc gs_field_Elem_Square.length (Ag.mk ((.one (.ints .u64 5))) x)).1 none (Pt.get ((.ints .u64 5))) = field_Elem_Square x := by
  intro x; kernel_rfl
theorem s_field_Elem_Square {w0 : World}  (h60 : SoundAt Tryd.prog w0 60 ct_field_Elem_Least) (h63 : SoundAt Tryd.prog w0 63 ct_field_Elem_slim) (h64 : SoundAt Tryd.prog w0 64 ct_field_double_plus) (h65 : SoundAt Tryd.prog w0 65 ct_field_carried) : SoundAt Tryd.prog w0 24 ct_field_Elem_Square := by
  have hcs : ∀ x ∈ cs_field_Elem_Square, SoundAt Tryd.prog w0 x.1 x.2 := by
    intro x hx
    simp only [cs_field_Elem_Square, List.mem_cons, List.not_mem_nil, or_false] at hx
    rcases hx with rfl | rfl | rfl | rfl
    · exact h60
    · exact h63
    · exact h64
    · exact h65
  exact fn_printed hcs (glob_nil _ _) Tryd.func24 (by kernel_rfl) (by kernel_rfl) (S := 0) (fun w _ => loopsOK_nil _) (fun _ => rfl) (r_field_Elem_Square)
theorem k_field_Elem_Square {w0 : World}  : SoundAt Tryd.prog w0 24 ct_field_Elem_Square :=
  s_field_Elem_Square (k_field_Elem_Least) (k_field_Elem_slim) (k_field_double_plus) (k_field_carried)

def ct_field_load : Ct := tct (.one (.ints .u8 32)) (.ints .u64 5) fun x => field_load x
def cs_field_load : List (FuncId × Ct) := []
def gs_field_load : List Gv := []
noncomputable def ls_field_load : List (Nat × Lf) := []
theorem r_field_load : ∀ x, run Tryd.prog (fun g => lkG g (cs_field_load)) (glAt gs_field_load 0) (gs_field_load.length + 0) (memAt gs_field_load 0 ++ (unc gs_field_load.length (Ag.mk ((.one (.ints .u8 32))) x)).2) (fun i => lkL i (ls_field_load)) 100 Tryd.f59 (unc gs_field_load.length (Ag.mk ((.one (.ints .u8 32))) x)).1 none (Pt.get ((.ints .u64 5))) = some (field_load x) := by
  intro x; kernel_rfl
theorem s_field_load {w0 : World}  : SoundAt Tryd.prog w0 59 ct_field_load := by
  have hcs : ∀ x ∈ cs_field_load, SoundAt Tryd.prog w0 x.1 x.2 := by
    intro x hx
    simp [cs_field_load] at hx
  exact sound_tct (fn_printed hcs (glob_nil _ _) Tryd.func59 (by kernel_rfl) (by kernel_rfl) (S := 0) (fun w _ => loopsOK_nil _) (fun _ => rfl) (r_field_load)) fun _ _ => rfl
theorem k_field_load {w0 : World}  : SoundAt Tryd.prog w0 59 ct_field_load :=
  s_field_load

def ct_field_Decode : Ct := tct (.one (.ints .u8 32)) (.tup (.cons (.ints .u64 5) (.one (.int .i64)))) fun x => field_Decode x
def cs_field_Decode : List (FuncId × Ct) := [(59, ct_field_load), (60, ct_field_Elem_Least)]
def gs_field_Decode : List Gv := []
noncomputable def ls_field_Decode : List (Nat × Lf) := []
theorem r_field_Decode : ∀ x, run Tryd.prog (fun g => lkG g (cs_field_Decode)) (glAt gs_field_Decode 0) (gs_field_Decode.length + 0) (memAt gs_field_Decode 0 ++ (unc gs_field_Decode.length (Ag.mk ((.one (.ints .u8 32))) x)).2) (fun i => lkL i (ls_field_Decode)) 100 Tryd.f52 (unc gs_field_Decode.length (Ag.mk ((.one (.ints .u8 32))) x)).1 none (Pt.get ((.tup (.cons (.ints .u64 5) (.one (.int .i64)))))) = field_Decode_o x := by
  intro x; kernel_rfl
theorem s_field_Decode {w0 : World}  (h59 : SoundAt Tryd.prog w0 59 ct_field_load) (h60 : SoundAt Tryd.prog w0 60 ct_field_Elem_Least) : SoundAt Tryd.prog w0 52 ct_field_Decode := by
  have hcs : ∀ x ∈ cs_field_Decode, SoundAt Tryd.prog w0 x.1 x.2 := by
    intro x hx
    simp only [cs_field_Decode, List.mem_cons, List.not_mem_nil, or_false] at hx
    rcases hx with rfl | rfl
    · exact h59
    · exact h60
  exact sound_tct (fn_printed hcs (glob_nil _ _) Tryd.func52 (by kernel_rfl) (by kernel_rfl) (S := 0) (fun w _ => loopsOK_nil _) (fun _ => rfl) (r_field_Decode)) fun _ _ => field_Decode_tot _
theorem k_field_Decode {w0 : World}  : SoundAt Tryd.prog w0 52 ct_field_Decode :=
  s_field_Decode (k_field_load) (k_field_Elem_Least)

def ct_field_Reduce : Ct := tct (.one (.ints .u8 32)) (.ints .u64 5) fun x => field_Reduce x
def cs_field_Reduce : List (FuncId × Ct) := [(59, ct_field_load), (60, ct_field_Elem_Least)]
def gs_field_Reduce : List Gv := []
noncomputable def ls_field_Reduce : List (Nat × Lf) := []
theorem r_field_Reduce : ∀ x, run Tryd.prog (fun g => lkG g (cs_field_Reduce)) (glAt gs_field_Reduce 0) (gs_field_Reduce.length + 0) (memAt gs_field_Reduce 0 ++ (unc gs_field_Reduce.length (Ag.mk ((.one (.ints .u8 32))) x)).2) (fun i => lkL i (ls_field_Reduce)) 100 Tryd.f16 (unc gs_field_Reduce.length (Ag.mk ((.one (.ints .u8 32))) x)).1 none (Pt.get ((.ints .u64 5))) = some (field_Reduce x) := by
  intro x; kernel_rfl
theorem s_field_Reduce {w0 : World}  (h59 : SoundAt Tryd.prog w0 59 ct_field_load) (h60 : SoundAt Tryd.prog w0 60 ct_field_Elem_Least) : SoundAt Tryd.prog w0 16 ct_field_Reduce := by
  have hcs : ∀ x ∈ cs_field_Reduce, SoundAt Tryd.prog w0 x.1 x.2 := by
    intro x hx
    simp only [cs_field_Reduce, List.mem_cons, List.not_mem_nil, or_false] at hx
    rcases hx with rfl | rfl
    · exact h59
    · exact h60
  exact sound_tct (fn_printed hcs (glob_nil _ _) Tryd.func16 (by kernel_rfl) (by kernel_rfl) (S := 0) (fun w _ => loopsOK_nil _) (fun _ => rfl) (r_field_Reduce)) fun _ _ => rfl
theorem k_field_Reduce {w0 : World}  : SoundAt Tryd.prog w0 16 ct_field_Reduce :=
  s_field_Reduce (k_field_load) (k_field_Elem_Least)

def ct_field_Elem_Encode : Ct := tct (.one (.ints .u64 5)) (.ints .u8 32) fun x => field_Elem_Encode x
def cs_field_Elem_Encode : List (FuncId × Ct) := [(60, ct_field_Elem_Least)]
def gs_field_Elem_Encode : List Gv := []
noncomputable def ls_field_Elem_Encode : List (Nat × Lf) := []
theorem r_field_Elem_Encode : ∀ x, run Tryd.prog (fun g => lkG g (cs_field_Elem_Encode)) (glAt gs_field_Elem_Encode 0) (gs_field_Elem_Encode.length + 0) (memAt gs_field_Elem_Encode 0 ++ (unc gs_field_Elem_Encode.length (Ag.mk ((.one (.ints .u64 5))) x)).2) (fun i => lkL i (ls_field_Elem_Encode)) 100 Tryd.f31 (unc gs_field_Elem_Encode.length (Ag.mk ((.one (.ints .u64 5))) x)).1 none (Pt.get ((.ints .u8 32))) = some (field_Elem_Encode x) := by
  intro x; kernel_rfl
theorem s_field_Elem_Encode {w0 : World}  (h60 : SoundAt Tryd.prog w0 60 ct_field_Elem_Least) : SoundAt Tryd.prog w0 31 ct_field_Elem_Encode := by
  have hcs : ∀ x ∈ cs_field_Elem_Encode, SoundAt Tryd.prog w0 x.1 x.2 := by
    intro x hx
    simp only [cs_field_Elem_Encode, List.mem_cons, List.not_mem_nil, or_false] at hx
    rcases hx with rfl
    · exact h60
  exact sound_tct (fn_printed hcs (glob_nil _ _) Tryd.func31 (by kernel_rfl) (by kernel_rfl) (S := 0) (fun w _ => loopsOK_nil _) (fun _ => rfl) (r_field_Elem_Encode)) fun _ _ => rfl
theorem k_field_Elem_Encode {w0 : World}  : SoundAt Tryd.prog w0 31 ct_field_Elem_Encode :=
  s_field_Elem_Encode (k_field_Elem_Least)

def ct_field_Elem_squares (N : Nat) : Ct := fct (.cons (.ints .u64 5) (.one (.int .i64))) (.ints .u64 5) fun x => field_Elem_squares N x.1 x.2
def cs_field_Elem_squares (N : Nat) : List (FuncId × Ct) := [(24, ct_field_Elem_Square)]
def gs_field_Elem_squares : List Gv := []
def field_Elem_squares_l0_H : Fm ((Unit × Unit × Int × Int)) ((List Int × Unit)) := ⟨(.cons 2 (.lit (.ptr 0 [] 28)) (.cons 4 (.lit (.ptr 1 [] 28)) (.cons 5 (.int .i64) (.one 6 (.int .i64))))), (.cons 0 (.ints .u64 5) (.one 1 (.lit (.ints .u64 5 [0, 0, 0, 0, 0]))))⟩
def field_Elem_squares_l0_O : Fm ((Unit × Unit)) ((List Int × Unit)) := ⟨(.cons 2 (.lit (.ptr 0 [] 28)) (.one 4 (.lit (.ptr 1 [] 28)))), (.cons 0 (.ints .u64 5) (.one 1 (.lit (.ints .u64 5 [0, 0, 0, 0, 0]))))⟩
def field_Elem_squares_l0_T : Fm (Unit) (Unit) := ⟨.nil, .nil⟩
noncomputable def ls_field_Elem_squares (N : Nat) : List (Nat × Lf) := [(0, loopCt field_Elem_squares_l0_H field_Elem_squares_l0_O field_Elem_squares_l0_T 4 (field_Elem_squares_l0 N) N)]
theorem field_Elem_squares_l0_step (N : Nat) : ∀ v, exec Tryd.prog (cxOf Tryd.f73 (cs_field_Elem_squares N) gs_field_Elem_squares 0) (fun i => lkL i (ls_field_Elem_squares N)) 100 none (loopBody Tryd.f73 0) (field_Elem_squares_l0_H.st 4 v) (rdEnd field_Elem_squares_l0_H field_Elem_squares_l0_O field_Elem_squares_l0_T 4 0) = field_Elem_squares_l0 N v := by
  intro v; kernel_rfl
theorem r_field_Elem_squares (N : Nat) : ∀ x, run Tryd.prog (fun g => lkG g (cs_field_Elem_squares N)) (glAt gs_field_Elem_squares 0) (gs_field_Elem_squares.length + 0) (memAt gs_field_Elem_squares 0 ++ (unc gs_field_Elem_squares.length (Ag.mk ((.cons (.ints .u64 5) (.one (.int .i64)))) x)).2) (fun i => lkL i (ls_field_Elem_squares N)) 100 Tryd.f73 (unc gs_field_Elem_squares.length (Ag.mk ((.cons (.ints .u64 5) (.one (.int .i64)))) x)).1 none (Pt.get ((.ints .u64 5))) = field_Elem_squares N x.1 x.2 := by
  intro x; kernel_rfl
theorem s_field_Elem_squares {w0 : World} (N : Nat)  (h24 : SoundAt Tryd.prog w0 24 ct_field_Elem_Square) : SoundAt Tryd.prog w0 73 (ct_field_Elem_squares N) := by
  have hcs : ∀ x ∈ cs_field_Elem_squares N, SoundAt Tryd.prog w0 x.1 x.2 := by
    intro x hx
    simp only [cs_field_Elem_squares, List.mem_cons, List.not_mem_nil, or_false] at hx
    rcases hx with rfl
    · exact h24
  have L0 : ∀ w, RowKit.Below w0.heap.size w0 w → LoopOK Tryd.prog (cxOf Tryd.f73 (cs_field_Elem_squares N) gs_field_Elem_squares 0) w 0 (.loop (loopBody Tryd.f73 0)) (loopCt field_Elem_squares_l0_H field_Elem_squares_l0_O field_Elem_squares_l0_T 4 (field_Elem_squares_l0 N) N) :=
    loop_printed hcs (ls := ls_field_Elem_squares N) (n := 100) (by kernel_rfl) (field_Elem_squares_l0_step N) N fun w hw => loopsOK_list (by
      intro x hx
      simp only [ls_field_Elem_squares, List.mem_cons, List.not_mem_nil, or_false] at hx
      rcases hx with rfl
      · exact .inl (by kernel_rfl)
    )
  exact fn_printed hcs (glob_nil _ _) Tryd.func73 (by kernel_rfl) (by kernel_rfl) (S := 0) (fun w hw => loopsOK_list (by
    intro x hx
    simp only [ls_field_Elem_squares, List.mem_cons, List.not_mem_nil, or_false] at hx
    rcases hx with rfl
    · exact .inr ⟨_, by kernel_rfl, L0 w hw⟩
  )) (fun _ => rfl) (r_field_Elem_squares N)
theorem k_field_Elem_squares {w0 : World} (N : Nat)  : SoundAt Tryd.prog w0 73 (ct_field_Elem_squares N) :=
  s_field_Elem_squares N (k_field_Elem_Square)

def ct_field_Elem_ones (N : Nat) : Ct := fct (.one (.ints .u64 5)) (.tup (.cons (.ints .u64 5) (.one (.ints .u64 5)))) fun x => field_Elem_ones N x
def cs_field_Elem_ones (N : Nat) : List (FuncId × Ct) := [(20, ct_field_Elem_Mul), (24, ct_field_Elem_Square), (73, (ct_field_Elem_squares N))]
def gs_field_Elem_ones : List Gv := []
noncomputable def ls_field_Elem_ones (N : Nat) : List (Nat × Lf) := []
theorem r_field_Elem_ones (N : Nat) : ∀ x, run Tryd.prog (fun g => lkG g (cs_field_Elem_ones N)) (glAt gs_field_Elem_ones 0) (gs_field_Elem_ones.length + 0) (memAt gs_field_Elem_ones 0 ++ (unc gs_field_Elem_ones.length (Ag.mk ((.one (.ints .u64 5))) x)).2) (fun i => lkL i (ls_field_Elem_ones N)) 100 Tryd.f72 (unc gs_field_Elem_ones.length (Ag.mk ((.one (.ints .u64 5))) x)).1 none (Pt.get ((.tup (.cons (.ints .u64 5) (.one (.ints .u64 5)))))) = field_Elem_ones N x := by
  intro x; kernel_rfl
theorem s_field_Elem_ones {w0 : World} (N : Nat)  (h20 : SoundAt Tryd.prog w0 20 ct_field_Elem_Mul) (h24 : SoundAt Tryd.prog w0 24 ct_field_Elem_Square) (h73 : SoundAt Tryd.prog w0 73 (ct_field_Elem_squares N)) : SoundAt Tryd.prog w0 72 (ct_field_Elem_ones N) := by
  have hcs : ∀ x ∈ cs_field_Elem_ones N, SoundAt Tryd.prog w0 x.1 x.2 := by
    intro x hx
    simp only [cs_field_Elem_ones, List.mem_cons, List.not_mem_nil, or_false] at hx
    rcases hx with rfl | rfl | rfl
    · exact h20
    · exact h24
    · exact h73
  exact fn_printed hcs (glob_nil _ _) Tryd.func72 (by kernel_rfl) (by kernel_rfl) (S := 0) (fun w _ => loopsOK_nil _) (fun _ => rfl) (r_field_Elem_ones N)
theorem k_field_Elem_ones {w0 : World} (N : Nat)  : SoundAt Tryd.prog w0 72 (ct_field_Elem_ones N) :=
  s_field_Elem_ones N (k_field_Elem_Mul) (k_field_Elem_Square) (k_field_Elem_squares N)

def ct_field_Elem_Invert (N : Nat) : Ct := fct (.one (.ints .u64 5)) (.ints .u64 5) fun x => field_Elem_Invert N x
def cs_field_Elem_Invert (N : Nat) : List (FuncId × Ct) := [(20, ct_field_Elem_Mul), (72, (ct_field_Elem_ones N)), (73, (ct_field_Elem_squares N))]
def gs_field_Elem_Invert : List Gv := []
noncomputable def ls_field_Elem_Invert (N : Nat) : List (Nat × Lf) := []
theorem r_field_Elem_Invert (N : Nat) : ∀ x, run Tryd.prog (fun g => lkG g (cs_field_Elem_Invert N)) (glAt gs_field_Elem_Invert 0) (gs_field_Elem_Invert.length + 0) (memAt gs_field_Elem_Invert 0 ++ (unc gs_field_Elem_Invert.length (Ag.mk ((.one (.ints .u64 5))) x)).2) (fun i => lkL i (ls_field_Elem_Invert N)) 100 Tryd.f42 (unc gs_field_Elem_Invert.length (Ag.mk ((.one (.ints .u64 5))) x)).1 none (Pt.get ((.ints .u64 5))) = field_Elem_Invert N x := by
  intro x; kernel_rfl
theorem s_field_Elem_Invert {w0 : World} (N : Nat)  (h20 : SoundAt Tryd.prog w0 20 ct_field_Elem_Mul) (h72 : SoundAt Tryd.prog w0 72 (ct_field_Elem_ones N)) (h73 : SoundAt Tryd.prog w0 73 (ct_field_Elem_squares N)) : SoundAt Tryd.prog w0 42 (ct_field_Elem_Invert N) := by
  have hcs : ∀ x ∈ cs_field_Elem_Invert N, SoundAt Tryd.prog w0 x.1 x.2 := by
    intro x hx
    simp only [cs_field_Elem_Invert, List.mem_cons, List.not_mem_nil, or_false] at hx
    rcases hx with rfl | rfl | rfl
    · exact h20
    · exact h72
    · exact h73
  exact fn_printed hcs (glob_nil _ _) Tryd.func42 (by kernel_rfl) (by kernel_rfl) (S := 0) (fun w _ => loopsOK_nil _) (fun _ => rfl) (r_field_Elem_Invert N)
theorem k_field_Elem_Invert {w0 : World} (N : Nat)  : SoundAt Tryd.prog w0 42 (ct_field_Elem_Invert N) :=
  s_field_Elem_Invert N (k_field_Elem_Mul) (k_field_Elem_ones N) (k_field_Elem_squares N)

def ct_field_Elem_root (N : Nat) : Ct := fct (.one (.ints .u64 5)) (.ints .u64 5) fun x => field_Elem_root N x
def cs_field_Elem_root (N : Nat) : List (FuncId × Ct) := [(20, ct_field_Elem_Mul), (72, (ct_field_Elem_ones N)), (73, (ct_field_Elem_squares N))]
def gs_field_Elem_root : List Gv := []
noncomputable def ls_field_Elem_root (N : Nat) : List (Nat × Lf) := []
theorem r_field_Elem_root (N : Nat) : ∀ x, run Tryd.prog (fun g => lkG g (cs_field_Elem_root N)) (glAt gs_field_Elem_root 0) (gs_field_Elem_root.length + 0) (memAt gs_field_Elem_root 0 ++ (unc gs_field_Elem_root.length (Ag.mk ((.one (.ints .u64 5))) x)).2) (fun i => lkL i (ls_field_Elem_root N)) 100 Tryd.f67 (unc gs_field_Elem_root.length (Ag.mk ((.one (.ints .u64 5))) x)).1 none (Pt.get ((.ints .u64 5))) = field_Elem_root N x := by
  intro x; kernel_rfl
theorem s_field_Elem_root {w0 : World} (N : Nat)  (h20 : SoundAt Tryd.prog w0 20 ct_field_Elem_Mul) (h72 : SoundAt Tryd.prog w0 72 (ct_field_Elem_ones N)) (h73 : SoundAt Tryd.prog w0 73 (ct_field_Elem_squares N)) : SoundAt Tryd.prog w0 67 (ct_field_Elem_root N) := by
  have hcs : ∀ x ∈ cs_field_Elem_root N, SoundAt Tryd.prog w0 x.1 x.2 := by
    intro x hx
    simp only [cs_field_Elem_root, List.mem_cons, List.not_mem_nil, or_false] at hx
    rcases hx with rfl | rfl | rfl
    · exact h20
    · exact h72
    · exact h73
  exact fn_printed hcs (glob_nil _ _) Tryd.func67 (by kernel_rfl) (by kernel_rfl) (S := 0) (fun w _ => loopsOK_nil _) (fun _ => rfl) (r_field_Elem_root N)
theorem k_field_Elem_root {w0 : World} (N : Nat)  : SoundAt Tryd.prog w0 67 (ct_field_Elem_root N) :=
  s_field_Elem_root N (k_field_Elem_Mul) (k_field_Elem_ones N) (k_field_Elem_squares N)

def ct_field_Elem_One : Ct := tct (.one (.ints .u64 5)) (.ints .u64 5) fun x => field_Elem_One x
def cs_field_Elem_One : List (FuncId × Ct) := []
def gs_field_Elem_One : List Gv := []
noncomputable def ls_field_Elem_One : List (Nat × Lf) := []
theorem r_field_Elem_One : ∀ x, run Tryd.prog (fun g => lkG g (cs_field_Elem_One)) (glAt gs_field_Elem_One 0) (gs_field_Elem_One.length + 0) (memAt gs_field_Elem_One 0 ++ (unc gs_field_Elem_One.length (Ag.mk ((.one (.ints .u64 5))) x)).2) (fun i => lkL i (ls_field_Elem_One)) 100 Tryd.f19 (unc gs_field_Elem_One.length (Ag.mk ((.one (.ints .u64 5))) x)).1 none (Pt.get ((.ints .u64 5))) = some (field_Elem_One x) := by
  intro x; kernel_rfl
theorem s_field_Elem_One {w0 : World}  : SoundAt Tryd.prog w0 19 ct_field_Elem_One := by
  have hcs : ∀ x ∈ cs_field_Elem_One, SoundAt Tryd.prog w0 x.1 x.2 := by
    intro x hx
    simp [cs_field_Elem_One] at hx
  exact sound_tct (fn_printed hcs (glob_nil _ _) Tryd.func19 (by kernel_rfl) (by kernel_rfl) (S := 0) (fun w _ => loopsOK_nil _) (fun _ => rfl) (r_field_Elem_One)) fun _ _ => rfl
theorem k_field_Elem_One {w0 : World}  : SoundAt Tryd.prog w0 19 ct_field_Elem_One :=
  s_field_Elem_One

def ct_field_Elem_IsZero : Ct := tct (.one (.ints .u64 5)) .bool fun x => field_Elem_IsZero x
def cs_field_Elem_IsZero : List (FuncId × Ct) := [(60, ct_field_Elem_Least)]
def gs_field_Elem_IsZero : List Gv := []
noncomputable def ls_field_Elem_IsZero : List (Nat × Lf) := []
theorem r_field_Elem_IsZero : ∀ x, run Tryd.prog (fun g => lkG g (cs_field_Elem_IsZero)) (glAt gs_field_Elem_IsZero 0) (gs_field_Elem_IsZero.length + 0) (memAt gs_field_Elem_IsZero 0 ++ (unc gs_field_Elem_IsZero.length (Ag.mk ((.one (.ints .u64 5))) x)).2) (fun i => lkL i (ls_field_Elem_IsZero)) 100 Tryd.f53 (unc gs_field_Elem_IsZero.length (Ag.mk ((.one (.ints .u64 5))) x)).1 none (Pt.get (.bool)) = some (field_Elem_IsZero x) := by
  intro x; kernel_rfl
theorem s_field_Elem_IsZero {w0 : World}  (h60 : SoundAt Tryd.prog w0 60 ct_field_Elem_Least) : SoundAt Tryd.prog w0 53 ct_field_Elem_IsZero := by
  have hcs : ∀ x ∈ cs_field_Elem_IsZero, SoundAt Tryd.prog w0 x.1 x.2 := by
    intro x hx
    simp only [cs_field_Elem_IsZero, List.mem_cons, List.not_mem_nil, or_false] at hx
    rcases hx with rfl
    · exact h60
  exact sound_tct (fn_printed hcs (glob_nil _ _) Tryd.func53 (by kernel_rfl) (by kernel_rfl) (S := 0) (fun w _ => loopsOK_nil _) (fun _ => rfl) (r_field_Elem_IsZero)) fun _ _ => rfl
theorem k_field_Elem_IsZero {w0 : World}  : SoundAt Tryd.prog w0 53 ct_field_Elem_IsZero :=
  s_field_Elem_IsZero (k_field_Elem_Least)

def ct_field_Elem_Negative : Ct := tct (.one (.ints .u64 5)) .bool fun x => field_Elem_Negative x
def cs_field_Elem_Negative : List (FuncId × Ct) := [(60, ct_field_Elem_Least)]
def gs_field_Elem_Negative : List Gv := []
noncomputable def ls_field_Elem_Negative : List (Nat × Lf) := []
theorem r_field_Elem_Negative : ∀ x, run Tryd.prog (fun g => lkG g (cs_field_Elem_Negative)) (glAt gs_field_Elem_Negative 0) (gs_field_Elem_Negative.length + 0) (memAt gs_field_Elem_Negative 0 ++ (unc gs_field_Elem_Negative.length (Ag.mk ((.one (.ints .u64 5))) x)).2) (fun i => lkL i (ls_field_Elem_Negative)) 100 Tryd.f26 (unc gs_field_Elem_Negative.length (Ag.mk ((.one (.ints .u64 5))) x)).1 none (Pt.get (.bool)) = some (field_Elem_Negative x) := by
  intro x; kernel_rfl
theorem s_field_Elem_Negative {w0 : World}  (h60 : SoundAt Tryd.prog w0 60 ct_field_Elem_Least) : SoundAt Tryd.prog w0 26 ct_field_Elem_Negative := by
  have hcs : ∀ x ∈ cs_field_Elem_Negative, SoundAt Tryd.prog w0 x.1 x.2 := by
    intro x hx
    simp only [cs_field_Elem_Negative, List.mem_cons, List.not_mem_nil, or_false] at hx
    rcases hx with rfl
    · exact h60
  exact sound_tct (fn_printed hcs (glob_nil _ _) Tryd.func26 (by kernel_rfl) (by kernel_rfl) (S := 0) (fun w _ => loopsOK_nil _) (fun _ => rfl) (r_field_Elem_Negative)) fun _ _ => rfl
theorem k_field_Elem_Negative {w0 : World}  : SoundAt Tryd.prog w0 26 ct_field_Elem_Negative :=
  s_field_Elem_Negative (k_field_Elem_Least)

def ct_field_Select : Ct := tct (.cons (.int .i64) (.cons (.ints .u64 5) (.one (.ints .u64 5)))) (.ints .u64 5) fun x => field_Select x.1 x.2.1 x.2.2
def cs_field_Select : List (FuncId × Ct) := [(60, ct_field_Elem_Least)]
def gs_field_Select : List Gv := []
noncomputable def ls_field_Select : List (Nat × Lf) := []
theorem r_field_Select : ∀ x, run Tryd.prog (fun g => lkG g (cs_field_Select)) (glAt gs_field_Select 0) (gs_field_Select.length + 0) (memAt gs_field_Select 0 ++ (unc gs_field_Select.length (Ag.mk ((.cons (.int .i64) (.cons (.ints .u64 5) (.one (.ints .u64 5))))) x)).2) (fun i => lkL i (ls_field_Select)) 100 Tryd.f28 (unc gs_field_Select.length (Ag.mk ((.cons (.int .i64) (.cons (.ints .u64 5) (.one (.ints .u64 5))))) x)).1 none (Pt.get ((.ints .u64 5))) = some (field_Select x.1 x.2.1 x.2.2) := by
  intro x; kernel_rfl
theorem s_field_Select {w0 : World}  (h60 : SoundAt Tryd.prog w0 60 ct_field_Elem_Least) : SoundAt Tryd.prog w0 28 ct_field_Select := by
  have hcs : ∀ x ∈ cs_field_Select, SoundAt Tryd.prog w0 x.1 x.2 := by
    intro x hx
    simp only [cs_field_Select, List.mem_cons, List.not_mem_nil, or_false] at hx
    rcases hx with rfl
    · exact h60
  exact sound_tct (fn_printed hcs (glob_nil _ _) Tryd.func28 (by kernel_rfl) (by kernel_rfl) (S := 0) (fun w _ => loopsOK_nil _) (fun _ => rfl) (r_field_Select)) fun _ _ => rfl
theorem k_field_Select {w0 : World}  : SoundAt Tryd.prog w0 28 ct_field_Select :=
  s_field_Select (k_field_Elem_Least)

def ct_field_Elem_Abs : Ct := tct (.one (.ints .u64 5)) (.ints .u64 5) fun x => field_Elem_Abs x
def cs_field_Elem_Abs : List (FuncId × Ct) := [(28, ct_field_Select), (29, ct_field_Elem_Neg), (60, ct_field_Elem_Least)]
def gs_field_Elem_Abs : List Gv := []
noncomputable def ls_field_Elem_Abs : List (Nat × Lf) := []
theorem r_field_Elem_Abs : ∀ x, run Tryd.prog (fun g => lkG g (cs_field_Elem_Abs)) (glAt gs_field_Elem_Abs 0) (gs_field_Elem_Abs.length + 0) (memAt gs_field_Elem_Abs 0 ++ (unc gs_field_Elem_Abs.length (Ag.mk ((.one (.ints .u64 5))) x)).2) (fun i => lkL i (ls_field_Elem_Abs)) 100 Tryd.f30 (unc gs_field_Elem_Abs.length (Ag.mk ((.one (.ints .u64 5))) x)).1 none (Pt.get ((.ints .u64 5))) = some (field_Elem_Abs x) := by
  intro x; kernel_rfl
theorem s_field_Elem_Abs {w0 : World}  (h28 : SoundAt Tryd.prog w0 28 ct_field_Select) (h29 : SoundAt Tryd.prog w0 29 ct_field_Elem_Neg) (h60 : SoundAt Tryd.prog w0 60 ct_field_Elem_Least) : SoundAt Tryd.prog w0 30 ct_field_Elem_Abs := by
  have hcs : ∀ x ∈ cs_field_Elem_Abs, SoundAt Tryd.prog w0 x.1 x.2 := by
    intro x hx
    simp only [cs_field_Elem_Abs, List.mem_cons, List.not_mem_nil, or_false] at hx
    rcases hx with rfl | rfl | rfl
    · exact h28
    · exact h29
    · exact h60
  exact sound_tct (fn_printed hcs (glob_nil _ _) Tryd.func30 (by kernel_rfl) (by kernel_rfl) (S := 0) (fun w _ => loopsOK_nil _) (fun _ => rfl) (r_field_Elem_Abs)) fun _ _ => rfl
theorem k_field_Elem_Abs {w0 : World}  : SoundAt Tryd.prog w0 30 ct_field_Elem_Abs :=
  s_field_Elem_Abs (k_field_Select) (k_field_Elem_Neg) (k_field_Elem_Least)

def ct_field_Const : Ct := fct (.one (.int .i64)) (.ints .u64 5) fun x => field_Const x
def cs_field_Const : List (FuncId × Ct) := []
def gs_field_Const : List Gv := [⟨1, 98, (.rows 7 fun i => .ints .u64 5 (field_tab i))⟩]
noncomputable def ls_field_Const : List (Nat × Lf) := []
theorem r_field_Const : ∀ x, run Tryd.prog (fun g => lkG g (cs_field_Const)) (glAt gs_field_Const 0) (gs_field_Const.length + 0) (memAt gs_field_Const 0 ++ (unc gs_field_Const.length (Ag.mk ((.one (.int .i64))) x)).2) (fun i => lkL i (ls_field_Const)) 100 Tryd.f27 (unc gs_field_Const.length (Ag.mk ((.one (.int .i64))) x)).1 none (Pt.get ((.ints .u64 5))) = field_Const x := by
  intro x; kernel_rfl
theorem s_field_Const {w0 : World}  (hg : GlobOK Tryd.prog w0 gs_field_Const) : SoundAt Tryd.prog w0 27 ct_field_Const := by
  have hcs : ∀ x ∈ cs_field_Const, SoundAt Tryd.prog w0 x.1 x.2 := by
    intro x hx
    simp [cs_field_Const] at hx
  exact fn_printed hcs hg Tryd.func27 (by kernel_rfl) (by kernel_rfl) (S := 0) (fun w _ => loopsOK_nil _) (fun _ => rfl) (r_field_Const)
theorem k_field_Const {w0 : World}  (hg_field_Const : GlobOK Tryd.prog w0 gs_field_Const) : SoundAt Tryd.prog w0 27 ct_field_Const :=
  s_field_Const hg_field_Const

def ct_field_SqrtRatio (N : Nat) : Ct := fct (.cons (.ints .u64 5) (.one (.ints .u64 5))) (.tup (.cons (.ints .u64 5) (.one .bool))) fun x => field_SqrtRatio N x.1 x.2
def cs_field_SqrtRatio (N : Nat) : List (FuncId × Ct) := [(20, ct_field_Elem_Mul), (24, ct_field_Elem_Square), (29, ct_field_Elem_Neg), (30, ct_field_Elem_Abs), (60, ct_field_Elem_Least), (67, (ct_field_Elem_root N))]
def gs_field_SqrtRatio : List Gv := [⟨1, 98, (.rows 7 fun i => .ints .u64 5 (field_tab i))⟩]
noncomputable def ls_field_SqrtRatio (N : Nat) : List (Nat × Lf) := []
theorem r_field_SqrtRatio (N : Nat) : ∀ x, run Tryd.prog (fun g => lkG g (cs_field_SqrtRatio N)) (glAt gs_field_SqrtRatio 0) (gs_field_SqrtRatio.length + 0) (memAt gs_field_SqrtRatio 0 ++ (unc gs_field_SqrtRatio.length (Ag.mk ((.cons (.ints .u64 5) (.one (.ints .u64 5)))) x)).2) (fun i => lkL i (ls_field_SqrtRatio N)) 100 Tryd.f23 (unc gs_field_SqrtRatio.length (Ag.mk ((.cons (.ints .u64 5) (.one (.ints .u64 5)))) x)).1 none (Pt.get ((.tup (.cons (.ints .u64 5) (.one .bool))))) = field_SqrtRatio N x.1 x.2 := by
  intro x; kernel_rfl
theorem s_field_SqrtRatio {w0 : World} (N : Nat)  (h20 : SoundAt Tryd.prog w0 20 ct_field_Elem_Mul) (h24 : SoundAt Tryd.prog w0 24 ct_field_Elem_Square) (h29 : SoundAt Tryd.prog w0 29 ct_field_Elem_Neg) (h30 : SoundAt Tryd.prog w0 30 ct_field_Elem_Abs) (h60 : SoundAt Tryd.prog w0 60 ct_field_Elem_Least) (h67 : SoundAt Tryd.prog w0 67 (ct_field_Elem_root N)) (hg : GlobOK Tryd.prog w0 gs_field_SqrtRatio) : SoundAt Tryd.prog w0 23 (ct_field_SqrtRatio N) := by
  have hcs : ∀ x ∈ cs_field_SqrtRatio N, SoundAt Tryd.prog w0 x.1 x.2 := by
    intro x hx
    simp only [cs_field_SqrtRatio, List.mem_cons, List.not_mem_nil, or_false] at hx
    rcases hx with rfl | rfl | rfl | rfl | rfl | rfl
    · exact h20
    · exact h24
    · exact h29
    · exact h30
    · exact h60
    · exact h67
  exact fn_printed hcs hg Tryd.func23 (by kernel_rfl) (by kernel_rfl) (S := 0) (fun w _ => loopsOK_nil _) (fun _ => rfl) (r_field_SqrtRatio N)
theorem k_field_SqrtRatio {w0 : World} (N : Nat)  (hg_field_SqrtRatio : GlobOK Tryd.prog w0 gs_field_SqrtRatio) : SoundAt Tryd.prog w0 23 (ct_field_SqrtRatio N) :=
  s_field_SqrtRatio N (k_field_Elem_Mul) (k_field_Elem_Square) (k_field_Elem_Neg) (k_field_Elem_Abs) (k_field_Elem_Least) (k_field_Elem_root N) hg_field_SqrtRatio

def ct_veilref01_below : Ct := tct (.cons (.ints .i64 10) (.one (.ints .i64 10))) .bool fun x => veilref01_below x.1 x.2
def cs_veilref01_below : List (FuncId × Ct) := []
def gs_veilref01_below : List Gv := []
noncomputable def ls_veilref01_below : List (Nat × Lf) := []
theorem r_veilref01_below : ∀ x, run Tryd.prog (fun g => lkG g (cs_veilref01_below)) (glAt gs_veilref01_below 0) (gs_veilref01_below.length + 0) (memAt gs_veilref01_below 0 ++ (unc gs_veilref01_below.length (Ag.mk ((.cons (.ints .i64 10) (.one (.ints .i64 10)))) x)).2) (fun i => lkL i (ls_veilref01_below)) 100 Tryd.f77 (unc gs_veilref01_below.length (Ag.mk ((.cons (.ints .i64 10) (.one (.ints .i64 10)))) x)).1 none (Pt.get (.bool)) = veilref01_below_o x.1 x.2 := by
  intro x; kernel_rfl
theorem s_veilref01_below {w0 : World}  : SoundAt Tryd.prog w0 77 ct_veilref01_below := by
  have hcs : ∀ x ∈ cs_veilref01_below, SoundAt Tryd.prog w0 x.1 x.2 := by
    intro x hx
    simp [cs_veilref01_below] at hx
  exact sound_tct (fn_printed hcs (glob_nil _ _) Tryd.func77 (by kernel_rfl) (by kernel_rfl) (S := 0) (fun w _ => loopsOK_nil _) (fun _ => rfl) (r_veilref01_below)) fun _ _ => veilref01_below_tot _ _
theorem k_veilref01_below {w0 : World}  : SoundAt Tryd.prog w0 77 ct_veilref01_below :=
  s_veilref01_below

def ct_veilref01_minus : Ct := tct (.cons (.ints .i64 10) (.one (.ints .i64 10))) (.ints .i64 10) fun x => veilref01_minus x.1 x.2
def cs_veilref01_minus : List (FuncId × Ct) := []
def gs_veilref01_minus : List Gv := []
noncomputable def ls_veilref01_minus : List (Nat × Lf) := []
theorem r_veilref01_minus : ∀ x, run Tryd.prog (fun g => lkG g (cs_veilref01_minus)) (glAt gs_veilref01_minus 0) (gs_veilref01_minus.length + 0) (memAt gs_veilref01_minus 0 ++ (unc gs_veilref01_minus.length (Ag.mk ((.cons (.ints .i64 10) (.one (.ints .i64 10)))) x)).2) (fun i => lkL i (ls_veilref01_minus)) 100 Tryd.f75 (unc gs_veilref01_minus.length (Ag.mk ((.cons (.ints .i64 10) (.one (.ints .i64 10)))) x)).1 none (Pt.get ((.ints .i64 10))) = some (veilref01_minus x.1 x.2) := by
  intro x; kernel_rfl
theorem s_veilref01_minus {w0 : World}  : SoundAt Tryd.prog w0 75 ct_veilref01_minus := by
  have hcs : ∀ x ∈ cs_veilref01_minus, SoundAt Tryd.prog w0 x.1 x.2 := by
    intro x hx
    simp [cs_veilref01_minus] at hx
  exact sound_tct (fn_printed hcs (glob_nil _ _) Tryd.func75 (by kernel_rfl) (by kernel_rfl) (S := 0) (fun w _ => loopsOK_nil _) (fun _ => rfl) (r_veilref01_minus)) fun _ _ => rfl
theorem k_veilref01_minus {w0 : World}  : SoundAt Tryd.prog w0 75 ct_veilref01_minus :=
  s_veilref01_minus

def ct_veilref01_least (N : Nat) : Ct := fct (.one (.ints .i64 20)) (.ints .i64 10) fun x => veilref01_least N x
def cs_veilref01_least (N : Nat) : List (FuncId × Ct) := [(75, ct_veilref01_minus), (77, ct_veilref01_below)]
def gs_veilref01_least : List Gv := [⟨4, 38, (.ints .i64 10 [67108845, 67108863, 67108863, 67108863, 67108863, 67108863, 67108863, 67108863, 67108863, 2097151])⟩]
def veilref01_least_l4_H : Fm ((Unit × Int × Unit × Bool)) ((Unit × Unit × List Int)) := ⟨(.cons 2 (.lit (.ptr 2 [] 38)) (.cons 3 (.int .i64) (.cons 5 (.lit (.ptr 387 [] 38)) (.one 7 .bool)))), (.cons 0 (.lit (.ints .i64 10 [67108845, 67108863, 67108863, 67108863, 67108863, 67108863, 67108863, 67108863, 67108863, 2097151])) (.cons 2 (.lit (.ints .i64 10 [0, 0, 0, 0, 0, 0, 0, 0, 0, 0])) (.one 387 (.ints .i64 10))))⟩
def veilref01_least_l4_O : Fm ((Unit × Unit)) ((Unit × Unit × List Int)) := ⟨(.cons 2 (.lit (.ptr 2 [] 38)) (.one 5 (.lit (.ptr 387 [] 38)))), (.cons 0 (.lit (.ints .i64 10 [67108845, 67108863, 67108863, 67108863, 67108863, 67108863, 67108863, 67108863, 67108863, 2097151])) (.cons 2 (.lit (.ints .i64 10 [0, 0, 0, 0, 0, 0, 0, 0, 0, 0])) (.one 387 (.ints .i64 10))))⟩
def veilref01_least_l4_T : Fm (Unit) (Unit) := ⟨.nil, .nil⟩
noncomputable def ls_veilref01_least (N : Nat) : List (Nat × Lf) := [(4, loopCt veilref01_least_l4_H veilref01_least_l4_O veilref01_least_l4_T 563 (veilref01_least_l4 N) N)]
theorem veilref01_least_l4_step (N : Nat) : ∀ v, exec Tryd.prog (cxOf Tryd.f51 (cs_veilref01_least N) gs_veilref01_least 0) (fun i => lkL i (ls_veilref01_least N)) 100 none (loopBody Tryd.f51 4) (veilref01_least_l4_H.st 563 v) (rdEnd veilref01_least_l4_H veilref01_least_l4_O veilref01_least_l4_T 563 4) = veilref01_least_l4 N v := by
  intro v; kernel_rfl
theorem r_veilref01_least (N : Nat) : ∀ x, run Tryd.prog (fun g => lkG g (cs_veilref01_least N)) (glAt gs_veilref01_least 0) (gs_veilref01_least.length + 0) (memAt gs_veilref01_least 0 ++ (unc gs_veilref01_least.length (Ag.mk ((.one (.ints .i64 20))) x)).2) (fun i => lkL i (ls_veilref01_least N)) 100 Tryd.f51 (unc gs_veilref01_least.length (Ag.mk ((.one (.ints .i64 20))) x)).1 none (Pt.get ((.ints .i64 10))) = veilref01_least N x := by
  intro x; kernel_rfl
theorem s_veilref01_least {w0 : World} (N : Nat)  (h75 : SoundAt Tryd.prog w0 75 ct_veilref01_minus) (h77 : SoundAt Tryd.prog w0 77 ct_veilref01_below) (hg : GlobOK Tryd.prog w0 gs_veilref01_least) : SoundAt Tryd.prog w0 51 (ct_veilref01_least N) := by
  have hcs : ∀ x ∈ cs_veilref01_least N, SoundAt Tryd.prog w0 x.1 x.2 := by
    intro x hx
    simp only [cs_veilref01_least, List.mem_cons, List.not_mem_nil, or_false] at hx
    rcases hx with rfl | rfl
    · exact h75
    · exact h77
  have L4 : ∀ w, RowKit.Below w0.heap.size w0 w → LoopOK Tryd.prog (cxOf Tryd.f51 (cs_veilref01_least N) gs_veilref01_least 0) w 4 (.loop (loopBody Tryd.f51 4)) (loopCt veilref01_least_l4_H veilref01_least_l4_O veilref01_least_l4_T 563 (veilref01_least_l4 N) N) :=
    loop_printed hcs (ls := ls_veilref01_least N) (n := 100) (by kernel_rfl) (veilref01_least_l4_step N) N fun w hw => loopsOK_list (by
      intro x hx
      simp only [ls_veilref01_least, List.mem_cons, List.not_mem_nil, or_false] at hx
      rcases hx with rfl
      · exact .inl (by kernel_rfl)
    )
  exact fn_printed hcs hg Tryd.func51 (by kernel_rfl) (by kernel_rfl) (S := 0) (fun w hw => loopsOK_list (by
    intro x hx
    simp only [ls_veilref01_least, List.mem_cons, List.not_mem_nil, or_false] at hx
    rcases hx with rfl
    · exact .inr ⟨_, by kernel_rfl, L4 w hw⟩
  )) (fun _ => rfl) (r_veilref01_least N)
theorem k_veilref01_least {w0 : World} (N : Nat)  (hg_veilref01_least : GlobOK Tryd.prog w0 gs_veilref01_least) : SoundAt Tryd.prog w0 51 (ct_veilref01_least N) :=
  s_veilref01_least N (k_veilref01_minus) (k_veilref01_below) hg_veilref01_least

def ct_veilref01_Of (N : Nat) : Ct := fct (.one (.ints .u64 5)) (.ints .i64 10) fun x => veilref01_Of N x
def cs_veilref01_Of (N : Nat) : List (FuncId × Ct) := [(51, (ct_veilref01_least N))]
def gs_veilref01_Of : List Gv := []
def veilref01_Of_l2_H : Fm ((Unit × Unit × Unit × Int × Int)) ((List Int × Unit × List Int)) := ⟨(.cons 1 (.lit (.ptr 0 [] 25)) (.cons 2 (.lit (.ptr 1 [] 38)) (.cons 3 (.lit (.ptr 2 [] 84)) (.cons 4 (.int .i64) (.one 5 (.int .i64)))))), (.cons 0 (.ints .u64 5) (.cons 1 (.lit (.ints .i64 10 [0, 0, 0, 0, 0, 0, 0, 0, 0, 0])) (.one 2 (.ints .i64 20))))⟩
def veilref01_Of_l2_O : Fm ((Unit × Unit × Unit × Int)) ((List Int × Unit × List Int)) := ⟨(.cons 1 (.lit (.ptr 0 [] 25)) (.cons 2 (.lit (.ptr 1 [] 38)) (.cons 3 (.lit (.ptr 2 [] 84)) (.one 4 (.int .i64))))), (.cons 0 (.ints .u64 5) (.cons 1 (.lit (.ints .i64 10 [0, 0, 0, 0, 0, 0, 0, 0, 0, 0])) (.one 2 (.ints .i64 20))))⟩
def veilref01_Of_l2_T : Fm (Unit) (Unit) := ⟨.nil, .nil⟩
def veilref01_Of_l0_H : Fm ((Unit × Unit × Unit × Int)) ((List Int × Unit × List Int)) := ⟨(.cons 1 (.lit (.ptr 0 [] 25)) (.cons 2 (.lit (.ptr 1 [] 38)) (.cons 3 (.lit (.ptr 2 [] 84)) (.one 4 (.int .i64))))), (.cons 0 (.ints .u64 5) (.cons 1 (.lit (.ints .i64 10 [0, 0, 0, 0, 0, 0, 0, 0, 0, 0])) (.one 2 (.ints .i64 20))))⟩
def veilref01_Of_l0_O : Fm ((Unit × Unit)) ((Unit × List Int)) := ⟨(.cons 2 (.lit (.ptr 1 [] 38)) (.one 3 (.lit (.ptr 2 [] 84)))), (.cons 1 (.lit (.ints .i64 10 [0, 0, 0, 0, 0, 0, 0, 0, 0, 0])) (.one 2 (.ints .i64 20)))⟩
def veilref01_Of_l0_T : Fm (Unit) (Unit) := ⟨.nil, .nil⟩
noncomputable def ls_veilref01_Of (N : Nat) : List (Nat × Lf) := [(2, loopCt veilref01_Of_l2_H veilref01_Of_l2_O veilref01_Of_l2_T 7 (veilref01_Of_l2 N) N), (0, loopCt veilref01_Of_l0_H veilref01_Of_l0_O veilref01_Of_l0_T 4 (veilref01_Of_l0 N) N)]
theorem veilref01_Of_l2_step (N : Nat) : ∀ v, exec Tryd.prog (cxOf Tryd.f11 (cs_veilref01_Of N) gs_veilref01_Of 0) (fun i => lkL i (ls_veilref01_Of N)) 100 none (loopBody Tryd.f11 2) (veilref01_Of_l2_H.st 7 v) (rdEnd veilref01_Of_l2_H veilref01_Of_l2_O veilref01_Of_l2_T 7 2) = veilref01_Of_l2 N v := by
  intro v; kernel_rfl
theorem veilref01_Of_l0_step (N : Nat) : ∀ v, exec Tryd.prog (cxOf Tryd.f11 (cs_veilref01_Of N) gs_veilref01_Of 0) (fun i => lkL i (ls_veilref01_Of N)) 100 none (loopBody Tryd.f11 0) (veilref01_Of_l0_H.st 4 v) (rdEnd veilref01_Of_l0_H veilref01_Of_l0_O veilref01_Of_l0_T 4 0) = veilref01_Of_l0 N v := by
  intro v; kernel_rfl
theorem r_veilref01_Of (N : Nat) : ∀ x, run Tryd.prog (fun g => lkG g (cs_veilref01_Of N)) (glAt gs_veilref01_Of 0) (gs_veilref01_Of.length + 0) (memAt gs_veilref01_Of 0 ++ (unc gs_veilref01_Of.length (Ag.mk ((.one (.ints .u64 5))) x)).2) (fun i => lkL i (ls_veilref01_Of N)) 100 Tryd.f11 (unc gs_veilref01_Of.length (Ag.mk ((.one (.ints .u64 5))) x)).1 none (Pt.get ((.ints .i64 10))) = veilref01_Of N x := by
  intro x; kernel_rfl
theorem s_veilref01_Of {w0 : World} (N : Nat)  (h51 : SoundAt Tryd.prog w0 51 (ct_veilref01_least N)) : SoundAt Tryd.prog w0 11 (ct_veilref01_Of N) := by
  have hcs : ∀ x ∈ cs_veilref01_Of N, SoundAt Tryd.prog w0 x.1 x.2 := by
    intro x hx
    simp only [cs_veilref01_Of, List.mem_cons, List.not_mem_nil, or_false] at hx
    rcases hx with rfl
    · exact h51
  have L2 : ∀ w, RowKit.Below w0.heap.size w0 w → LoopOK Tryd.prog (cxOf Tryd.f11 (cs_veilref01_Of N) gs_veilref01_Of 0) w 2 (.loop (loopBody Tryd.f11 2)) (loopCt veilref01_Of_l2_H veilref01_Of_l2_O veilref01_Of_l2_T 7 (veilref01_Of_l2 N) N) :=
    loop_printed hcs (ls := ls_veilref01_Of N) (n := 100) (by kernel_rfl) (veilref01_Of_l2_step N) N fun w hw => loopsOK_list (by
      intro x hx
      simp only [ls_veilref01_Of, List.mem_cons, List.not_mem_nil, or_false] at hx
      rcases hx with rfl | rfl
      · exact .inl (by kernel_rfl)
      · exact .inl (by kernel_rfl)
    )
  have L0 : ∀ w, RowKit.Below w0.heap.size w0 w → LoopOK Tryd.prog (cxOf Tryd.f11 (cs_veilref01_Of N) gs_veilref01_Of 0) w 0 (.loop (loopBody Tryd.f11 0)) (loopCt veilref01_Of_l0_H veilref01_Of_l0_O veilref01_Of_l0_T 4 (veilref01_Of_l0 N) N) :=
    loop_printed hcs (ls := ls_veilref01_Of N) (n := 100) (by kernel_rfl) (veilref01_Of_l0_step N) N fun w hw => loopsOK_list (by
      intro x hx
      simp only [ls_veilref01_Of, List.mem_cons, List.not_mem_nil, or_false] at hx
      rcases hx with rfl | rfl
      · exact .inr ⟨_, by kernel_rfl, L2 w hw⟩
      · exact .inl (by kernel_rfl)
    )
  exact fn_printed hcs (glob_nil _ _) Tryd.func11 (by kernel_rfl) (by kernel_rfl) (S := 0) (fun w hw => loopsOK_list (by
    intro x hx
    simp only [ls_veilref01_Of, List.mem_cons, List.not_mem_nil, or_false] at hx
    rcases hx with rfl | rfl
    · exact .inr ⟨_, by kernel_rfl, L2 w hw⟩
    · exact .inr ⟨_, by kernel_rfl, L0 w hw⟩
  )) (fun _ => rfl) (r_veilref01_Of N)
theorem k_veilref01_Of {w0 : World} (N : Nat)  (hg_veilref01_least : GlobOK Tryd.prog w0 gs_veilref01_least) : SoundAt Tryd.prog w0 11 (ct_veilref01_Of N) :=
  s_veilref01_Of N (k_veilref01_least N hg_veilref01_least)

def ct_veilref01_Small (N : Nat) : Ct := fct (.one (.int .u64)) (.ints .i64 10) fun x => veilref01_Small N x
def cs_veilref01_Small (N : Nat) : List (FuncId × Ct) := [(51, (ct_veilref01_least N))]
def gs_veilref01_Small : List Gv := []
noncomputable def ls_veilref01_Small (N : Nat) : List (Nat × Lf) := []
theorem r_veilref01_Small (N : Nat) : ∀ x, run Tryd.prog (fun g => lkG g (cs_veilref01_Small N)) (glAt gs_veilref01_Small 0) (gs_veilref01_Small.length + 0) (memAt gs_veilref01_Small 0 ++ (unc gs_veilref01_Small.length (Ag.mk ((.one (.int .u64))) x)).2) (fun i => lkL i (ls_veilref01_Small N)) 100 Tryd.f78 (unc gs_veilref01_Small.length (Ag.mk ((.one (.int .u64))) x)).1 none (Pt.get ((.ints .i64 10))) = veilref01_Small N x := by
  intro x; kernel_rfl
theorem s_veilref01_Small {w0 : World} (N : Nat)  (h51 : SoundAt Tryd.prog w0 51 (ct_veilref01_least N)) : SoundAt Tryd.prog w0 78 (ct_veilref01_Small N) := by
  have hcs : ∀ x ∈ cs_veilref01_Small N, SoundAt Tryd.prog w0 x.1 x.2 := by
    intro x hx
    simp only [cs_veilref01_Small, List.mem_cons, List.not_mem_nil, or_false] at hx
    rcases hx with rfl
    · exact h51
  exact fn_printed hcs (glob_nil _ _) Tryd.func78 (by kernel_rfl) (by kernel_rfl) (S := 0) (fun w _ => loopsOK_nil _) (fun _ => rfl) (r_veilref01_Small N)
theorem k_veilref01_Small {w0 : World} (N : Nat)  (hg_veilref01_least : GlobOK Tryd.prog w0 gs_veilref01_least) : SoundAt Tryd.prog w0 78 (ct_veilref01_Small N) :=
  s_veilref01_Small N (k_veilref01_least N hg_veilref01_least)

def ct_veilref01_F_Add (N : Nat) : Ct := fct (.cons (.ints .i64 10) (.one (.ints .i64 10))) (.ints .i64 10) fun x => veilref01_F_Add N x.1 x.2
def cs_veilref01_F_Add (N : Nat) : List (FuncId × Ct) := [(51, (ct_veilref01_least N))]
def gs_veilref01_F_Add : List Gv := []
noncomputable def ls_veilref01_F_Add (N : Nat) : List (Nat × Lf) := []
theorem r_veilref01_F_Add (N : Nat) : ∀ x, run Tryd.prog (fun g => lkG g (cs_veilref01_F_Add N)) (glAt gs_veilref01_F_Add 0) (gs_veilref01_F_Add.length + 0) (memAt gs_veilref01_F_Add 0 ++ (unc gs_veilref01_F_Add.length (Ag.mk ((.cons (.ints .i64 10) (.one (.ints .i64 10)))) x)).2) (fun i => lkL i (ls_veilref01_F_Add N)) 100 Tryd.f38 (unc gs_veilref01_F_Add.length (Ag.mk ((.cons (.ints .i64 10) (.one (.ints .i64 10)))) x)).1 none (Pt.get ((.ints .i64 10))) = veilref01_F_Add N x.1 x.2 := by
  intro x; kernel_rfl
theorem s_veilref01_F_Add {w0 : World} (N : Nat)  (h51 : SoundAt Tryd.prog w0 51 (ct_veilref01_least N)) : SoundAt Tryd.prog w0 38 (ct_veilref01_F_Add N) := by
  have hcs : ∀ x ∈ cs_veilref01_F_Add N, SoundAt Tryd.prog w0 x.1 x.2 := by
    intro x hx
    simp only [cs_veilref01_F_Add, List.mem_cons, List.not_mem_nil, or_false] at hx
    rcases hx with rfl
    · exact h51
  exact fn_printed hcs (glob_nil _ _) Tryd.func38 (by kernel_rfl) (by kernel_rfl) (S := 0) (fun w _ => loopsOK_nil _) (fun _ => rfl) (r_veilref01_F_Add N)
theorem k_veilref01_F_Add {w0 : World} (N : Nat)  (hg_veilref01_least : GlobOK Tryd.prog w0 gs_veilref01_least) : SoundAt Tryd.prog w0 38 (ct_veilref01_F_Add N) :=
  s_veilref01_F_Add N (k_veilref01_least N hg_veilref01_least)

def ct_veilref01_F_Neg : Ct := tct (.one (.ints .i64 10)) (.ints .i64 10) fun x => veilref01_F_Neg x
def cs_veilref01_F_Neg : List (FuncId × Ct) := [(75, ct_veilref01_minus)]
def gs_veilref01_F_Neg : List Gv := [⟨2, 38, (.ints .i64 10 [0, 0, 0, 0, 0, 0, 0, 0, 0, 0])⟩, ⟨4, 38, (.ints .i64 10 [67108845, 67108863, 67108863, 67108863, 67108863, 67108863, 67108863, 67108863, 67108863, 2097151])⟩]
noncomputable def ls_veilref01_F_Neg : List (Nat × Lf) := []
theorem r_veilref01_F_Neg : ∀ x, run Tryd.prog (fun g => lkG g (cs_veilref01_F_Neg)) (glAt gs_veilref01_F_Neg 0) (gs_veilref01_F_Neg.length + 0) (memAt gs_veilref01_F_Neg 0 ++ (unc gs_veilref01_F_Neg.length (Ag.mk ((.one (.ints .i64 10))) x)).2) (fun i => lkL i (ls_veilref01_F_Neg)) 100 Tryd.f47 (unc gs_veilref01_F_Neg.length (Ag.mk ((.one (.ints .i64 10))) x)).1 none (Pt.get ((.ints .i64 10))) = veilref01_F_Neg_o x := by
  intro x; kernel_rfl
theorem s_veilref01_F_Neg {w0 : World}  (h75 : SoundAt Tryd.prog w0 75 ct_veilref01_minus) (hg : GlobOK Tryd.prog w0 gs_veilref01_F_Neg) : SoundAt Tryd.prog w0 47 ct_veilref01_F_Neg := by
  have hcs : ∀ x ∈ cs_veilref01_F_Neg, SoundAt Tryd.prog w0 x.1 x.2 := by
    intro x hx
    simp only [cs_veilref01_F_Neg, List.mem_cons, List.not_mem_nil, or_false] at hx
    rcases hx with rfl
    · exact h75
  exact sound_tct (fn_printed hcs hg Tryd.func47 (by kernel_rfl) (by kernel_rfl) (S := 0) (fun w _ => loopsOK_nil _) (fun _ => rfl) (r_veilref01_F_Neg)) fun _ _ => veilref01_F_Neg_tot _
theorem k_veilref01_F_Neg {w0 : World}  (hg_veilref01_F_Neg : GlobOK Tryd.prog w0 gs_veilref01_F_Neg) : SoundAt Tryd.prog w0 47 ct_veilref01_F_Neg :=
  s_veilref01_F_Neg (k_veilref01_minus) hg_veilref01_F_Neg

def ct_veilref01_F_Sub (N : Nat) : Ct := fct (.cons (.ints .i64 10) (.one (.ints .i64 10))) (.ints .i64 10) fun x => veilref01_F_Sub N x.1 x.2
def cs_veilref01_F_Sub (N : Nat) : List (FuncId × Ct) := [(38, (ct_veilref01_F_Add N)), (47, ct_veilref01_F_Neg)]
def gs_veilref01_F_Sub : List Gv := []
noncomputable def ls_veilref01_F_Sub (N : Nat) : List (Nat × Lf) := []
theorem r_veilref01_F_Sub (N : Nat) : ∀ x, run Tryd.prog (fun g => lkG g (cs_veilref01_F_Sub N)) (glAt gs_veilref01_F_Sub 0) (gs_veilref01_F_Sub.length + 0) (memAt gs_veilref01_F_Sub 0 ++ (unc gs_veilref01_F_Sub.length (Ag.mk ((.cons (.ints .i64 10) (.one (.ints .i64 10)))) x)).2) (fun i => lkL i (ls_veilref01_F_Sub N)) 100 Tryd.f37 (unc gs_veilref01_F_Sub.length (Ag.mk ((.cons (.ints .i64 10) (.one (.ints .i64 10)))) x)).1 none (Pt.get ((.ints .i64 10))) = veilref01_F_Sub N x.1 x.2 := by
  intro x; kernel_rfl
theorem s_veilref01_F_Sub {w0 : World} (N : Nat)  (h38 : SoundAt Tryd.prog w0 38 (ct_veilref01_F_Add N)) (h47 : SoundAt Tryd.prog w0 47 ct_veilref01_F_Neg) : SoundAt Tryd.prog w0 37 (ct_veilref01_F_Sub N) := by
  have hcs : ∀ x ∈ cs_veilref01_F_Sub N, SoundAt Tryd.prog w0 x.1 x.2 := by
    intro x hx
    simp only [cs_veilref01_F_Sub, List.mem_cons, List.not_mem_nil, or_false] at hx
    rcases hx with rfl | rfl
    · exact h38
    · exact h47
  exact fn_printed hcs (glob_nil _ _) Tryd.func37 (by kernel_rfl) (by kernel_rfl) (S := 0) (fun w _ => loopsOK_nil _) (fun _ => rfl) (r_veilref01_F_Sub N)
theorem k_veilref01_F_Sub {w0 : World} (N : Nat)  (hg_veilref01_least : GlobOK Tryd.prog w0 gs_veilref01_least) (hg_veilref01_F_Neg : GlobOK Tryd.prog w0 gs_veilref01_F_Neg) : SoundAt Tryd.prog w0 37 (ct_veilref01_F_Sub N) :=
  s_veilref01_F_Sub N (k_veilref01_F_Add N hg_veilref01_least) (k_veilref01_F_Neg hg_veilref01_F_Neg)

def ct_veilref01_F_Mul (N : Nat) : Ct := fct (.cons (.ints .i64 10) (.one (.ints .i64 10))) (.ints .i64 10) fun x => veilref01_F_Mul N x.1 x.2
def cs_veilref01_F_Mul (N : Nat) : List (FuncId × Ct) := [(51, (ct_veilref01_least N))]
def gs_veilref01_F_Mul : List Gv := []
noncomputable def ls_veilref01_F_Mul (N : Nat) : List (Nat × Lf) := []
theorem r_veilref01_F_Mul (N : Nat) : ∀ x, run Tryd.prog (fun g => lkG g (cs_veilref01_F_Mul N)) (glAt gs_veilref01_F_Mul 0) (gs_veilref01_F_Mul.length + 0) (memAt gs_veilref01_F_Mul 0 ++ (unc gs_veilref01_F_Mul.length (Ag.mk ((.cons (.ints .i64 10) (.one (.ints .i64 10)))) x)).2) (fun i => lkL i (ls_veilref01_F_Mul N)) 100 Tryd.f46 (unc gs_veilref01_F_Mul.length (Ag.mk ((.cons (.ints .i64 10) (.one (.ints .i64 10)))) x)).1 none (Pt.get ((.ints .i64 10))) = veilref01_F_Mul N x.1 x.2 := by
  intro x; kernel_rfl
theorem s_veilref01_F_Mul {w0 : World} (N : Nat)  (h51 : SoundAt Tryd.prog w0 51 (ct_veilref01_least N)) : SoundAt Tryd.prog w0 46 (ct_veilref01_F_Mul N) := by
  have hcs : ∀ x ∈ cs_veilref01_F_Mul N, SoundAt Tryd.prog w0 x.1 x.2 := by
    intro x hx
    simp only [cs_veilref01_F_Mul, List.mem_cons, List.not_mem_nil, or_false] at hx
    rcases hx with rfl
    · exact h51
  exact fn_printed hcs (glob_nil _ _) Tryd.func46 (by kernel_rfl) (by kernel_rfl) (S := 0) (fun w _ => loopsOK_nil _) (fun _ => rfl) (r_veilref01_F_Mul N)
theorem k_veilref01_F_Mul {w0 : World} (N : Nat)  (hg_veilref01_least : GlobOK Tryd.prog w0 gs_veilref01_least) : SoundAt Tryd.prog w0 46 (ct_veilref01_F_Mul N) :=
  s_veilref01_F_Mul N (k_veilref01_least N hg_veilref01_least)

def ct_veilref01_F_ones (N : Nat) : Ct := fct (.cons (.ints .i64 10) (.one (.int .i64))) (.ints .i64 10) fun x => veilref01_F_ones N x.1 x.2
def ct_veilref01_F_ones_step (rec : List Int → Int → Option (List Int)) (N : Nat) : Ct := fct (.cons (.ints .i64 10) (.one (.int .i64))) (.ints .i64 10) fun x => veilref01_F_ones_step rec N x.1 x.2
def cs_veilref01_F_ones_step (rec : List Int → Int → Option (List Int)) (N : Nat) : List (FuncId × Ct) := [(46, (ct_veilref01_F_Mul N)), (76, (fct (.cons (.ints .i64 10) (.one (.int .i64))) (.ints .i64 10) fun x => rec x.1 x.2))]
def gs_veilref01_F_ones_step : List Gv := []
def veilref01_F_ones_l0_H : Fm ((Int × Unit × Unit × Unit × Unit × Int)) ((List Int × Unit × List Int × List Int)) := ⟨(.cons 1 (.int .i64) (.cons 2 (.lit (.ptr 0 [] 38)) (.cons 4 (.lit (.ptr 1 [] 38)) (.cons 5 (.lit (.ptr 8 [] 38)) (.cons 6 (.lit (.ptr 11 [] 38)) (.one 7 (.int .i64))))))), (.cons 0 (.ints .i64 10) (.cons 1 (.lit (.ints .i64 10 [0, 0, 0, 0, 0, 0, 0, 0, 0, 0])) (.cons 8 (.ints .i64 10) (.one 11 (.ints .i64 10)))))⟩
def veilref01_F_ones_l0_O : Fm ((Int × Unit × Unit × Unit × Unit)) ((List Int × Unit × List Int × List Int)) := ⟨(.cons 1 (.int .i64) (.cons 2 (.lit (.ptr 0 [] 38)) (.cons 4 (.lit (.ptr 1 [] 38)) (.cons 5 (.lit (.ptr 8 [] 38)) (.one 6 (.lit (.ptr 11 [] 38))))))), (.cons 0 (.ints .i64 10) (.cons 1 (.lit (.ints .i64 10 [0, 0, 0, 0, 0, 0, 0, 0, 0, 0])) (.cons 8 (.ints .i64 10) (.one 11 (.ints .i64 10)))))⟩
def veilref01_F_ones_l0_T : Fm (Unit) (Unit) := ⟨.nil, .nil⟩
noncomputable def ls_veilref01_F_ones_step (rec : List Int → Int → Option (List Int)) (N : Nat) : List (Nat × Lf) := [(0, loopCt veilref01_F_ones_l0_H veilref01_F_ones_l0_O veilref01_F_ones_l0_T 14 (veilref01_F_ones_l0 N) N)]
theorem veilref01_F_ones_l0_step (rec : List Int → Int → Option (List Int)) (N : Nat) : ∀ v, exec Tryd.prog (cxOf Tryd.f76 (cs_veilref01_F_ones_step rec N) gs_veilref01_F_ones_step 0) (fun i => lkL i (ls_veilref01_F_ones_step rec N)) 100 none (loopBody Tryd.f76 0) (veilref01_F_ones_l0_H.st 14 v) (rdEnd veilref01_F_ones_l0_H veilref01_F_ones_l0_O veilref01_F_ones_l0_T 14 0) = veilref01_F_ones_l0 N v := by
  intro v; kernel_rfl
theorem r_veilref01_F_ones_step (rec : List Int → Int → Option (List Int)) (N : Nat) : ∀ x, run Tryd.prog (fun g => lkG g (cs_veilref01_F_ones_step rec N)) (glAt gs_veilref01_F_ones_step 0) (gs_veilref01_F_ones_step.length + 0) (memAt gs_veilref01_F_ones_step 0 ++ (unc gs_veilref01_F_ones_step.length (Ag.mk ((.cons (.ints .i64 10) (.one (.int .i64)))) x)).2) (fun i => lkL i (ls_veilref01_F_ones_step rec N)) 100 Tryd.f76 (unc gs_veilref01_F_ones_step.length (Ag.mk ((.cons (.ints .i64 10) (.one (.int .i64)))) x)).1 none (Pt.get ((.ints .i64 10))) = veilref01_F_ones_step rec N x.1 x.2 := by
  intro x; kernel_rfl
theorem s_veilref01_F_ones_step {w0 : World} (rec : List Int → Int → Option (List Int)) (N : Nat)  (h46 : SoundAt Tryd.prog w0 46 (ct_veilref01_F_Mul N)) (h76 : SoundAt Tryd.prog w0 76 (fct (.cons (.ints .i64 10) (.one (.int .i64))) (.ints .i64 10) fun x => rec x.1 x.2)) : SoundAt Tryd.prog w0 76 (ct_veilref01_F_ones_step rec N) := by
  have hcs : ∀ x ∈ cs_veilref01_F_ones_step rec N, SoundAt Tryd.prog w0 x.1 x.2 := by
    intro x hx
    simp only [cs_veilref01_F_ones_step, List.mem_cons, List.not_mem_nil, or_false] at hx
    rcases hx with rfl | rfl
    · exact h46
    · exact h76
  have L0 : ∀ w, RowKit.Below w0.heap.size w0 w → LoopOK Tryd.prog (cxOf Tryd.f76 (cs_veilref01_F_ones_step rec N) gs_veilref01_F_ones_step 0) w 0 (.loop (loopBody Tryd.f76 0)) (loopCt veilref01_F_ones_l0_H veilref01_F_ones_l0_O veilref01_F_ones_l0_T 14 (veilref01_F_ones_l0 N) N) :=
    loop_printed hcs (ls := ls_veilref01_F_ones_step rec N) (n := 100) (by kernel_rfl) (veilref01_F_ones_l0_step rec N) N fun w hw => loopsOK_list (by
      intro x hx
      simp only [ls_veilref01_F_ones_step, List.mem_cons, List.not_mem_nil, or_false] at hx
      rcases hx with rfl
      · exact .inl (by kernel_rfl)
    )
  exact fn_printed hcs (glob_nil _ _) Tryd.func76 (by kernel_rfl) (by kernel_rfl) (S := 0) (fun w hw => loopsOK_list (by
    intro x hx
    simp only [ls_veilref01_F_ones_step, List.mem_cons, List.not_mem_nil, or_false] at hx
    rcases hx with rfl
    · exact .inr ⟨_, by kernel_rfl, L0 w hw⟩
  )) (fun _ => rfl) (r_veilref01_F_ones_step rec N)
theorem k_veilref01_F_ones {w0 : World} (N : Nat)  (hg_veilref01_least : GlobOK Tryd.prog w0 gs_veilref01_least) : SoundAt Tryd.prog w0 76 (ct_veilref01_F_ones N) := by
  have h : ∀ m, SoundAt Tryd.prog w0 76 (fct (.cons (.ints .i64 10) (.one (.int .i64))) (.ints .i64 10) fun x => veilref01_F_ones_go N m x.1 x.2) := by
    intro m
    induction m with
    | zero => exact sound_never
    | succ m ih => exact s_veilref01_F_ones_step (veilref01_F_ones_go N m) N (k_veilref01_F_Mul N hg_veilref01_least) ih
  exact h N

def ct_veilref01_F_Invert (N : Nat) : Ct := fct (.one (.ints .i64 10)) (.ints .i64 10) fun x => veilref01_F_Invert N x
def cs_veilref01_F_Invert (N : Nat) : List (FuncId × Ct) := [(46, (ct_veilref01_F_Mul N)), (76, (ct_veilref01_F_ones N))]
def gs_veilref01_F_Invert : List Gv := []
noncomputable def ls_veilref01_F_Invert (N : Nat) : List (Nat × Lf) := []
theorem r_veilref01_F_Invert (N : Nat) : ∀ x, run Tryd.prog (fun g => lkG g (cs_veilref01_F_Invert N)) (glAt gs_veilref01_F_Invert 0) (gs_veilref01_F_Invert.length + 0) (memAt gs_veilref01_F_Invert 0 ++ (unc gs_veilref01_F_Invert.length (Ag.mk ((.one (.ints .i64 10))) x)).2) (fun i => lkL i (ls_veilref01_F_Invert N)) 100 Tryd.f50 (unc gs_veilref01_F_Invert.length (Ag.mk ((.one (.ints .i64 10))) x)).1 none (Pt.get ((.ints .i64 10))) = veilref01_F_Invert N x := by
  intro x; kernel_rfl
theorem s_veilref01_F_Invert {w0 : World} (N : Nat)  (h46 : SoundAt Tryd.prog w0 46 (ct_veilref01_F_Mul N)) (h76 : SoundAt Tryd.prog w0 76 (ct_veilref01_F_ones N)) : SoundAt Tryd.prog w0 50 (ct_veilref01_F_Invert N) := by
  have hcs : ∀ x ∈ cs_veilref01_F_Invert N, SoundAt Tryd.prog w0 x.1 x.2 := by
    intro x hx
    simp only [cs_veilref01_F_Invert, List.mem_cons, List.not_mem_nil, or_false] at hx
    rcases hx with rfl | rfl
    · exact h46
    · exact h76
  exact fn_printed hcs (glob_nil _ _) Tryd.func50 (by kernel_rfl) (by kernel_rfl) (S := 0) (fun w _ => loopsOK_nil _) (fun _ => rfl) (r_veilref01_F_Invert N)
theorem k_veilref01_F_Invert {w0 : World} (N : Nat)  (hg_veilref01_least : GlobOK Tryd.prog w0 gs_veilref01_least) : SoundAt Tryd.prog w0 50 (ct_veilref01_F_Invert N) :=
  s_veilref01_F_Invert N (k_veilref01_F_Mul N hg_veilref01_least) (k_veilref01_F_ones N hg_veilref01_least)

def ct_veilref01_F_Negative : Ct := tct (.one (.ints .i64 10)) .bool fun x => veilref01_F_Negative x
def cs_veilref01_F_Negative : List (FuncId × Ct) := []
def gs_veilref01_F_Negative : List Gv := []
noncomputable def ls_veilref01_F_Negative : List (Nat × Lf) := []
theorem r_veilref01_F_Negative : ∀ x, run Tryd.prog (fun g => lkG g (cs_veilref01_F_Negative)) (glAt gs_veilref01_F_Negative 0) (gs_veilref01_F_Negative.length + 0) (memAt gs_veilref01_F_Negative 0 ++ (unc gs_veilref01_F_Negative.length (Ag.mk ((.one (.ints .i64 10))) x)).2) (fun i => lkL i (ls_veilref01_F_Negative)) 100 Tryd.f55 (unc gs_veilref01_F_Negative.length (Ag.mk ((.one (.ints .i64 10))) x)).1 none (Pt.get (.bool)) = some (veilref01_F_Negative x) := by
  intro x; kernel_rfl
theorem s_veilref01_F_Negative {w0 : World}  : SoundAt Tryd.prog w0 55 ct_veilref01_F_Negative := by
  have hcs : ∀ x ∈ cs_veilref01_F_Negative, SoundAt Tryd.prog w0 x.1 x.2 := by
    intro x hx
    simp [cs_veilref01_F_Negative] at hx
  exact sound_tct (fn_printed hcs (glob_nil _ _) Tryd.func55 (by kernel_rfl) (by kernel_rfl) (S := 0) (fun w _ => loopsOK_nil _) (fun _ => rfl) (r_veilref01_F_Negative)) fun _ _ => rfl
theorem k_veilref01_F_Negative {w0 : World}  : SoundAt Tryd.prog w0 55 ct_veilref01_F_Negative :=
  s_veilref01_F_Negative

def ct_veilref01_F_Abs : Ct := tct (.one (.ints .i64 10)) (.ints .i64 10) fun x => veilref01_F_Abs x
def cs_veilref01_F_Abs : List (FuncId × Ct) := [(47, ct_veilref01_F_Neg)]
def gs_veilref01_F_Abs : List Gv := []
noncomputable def ls_veilref01_F_Abs : List (Nat × Lf) := []
theorem r_veilref01_F_Abs : ∀ x, run Tryd.prog (fun g => lkG g (cs_veilref01_F_Abs)) (glAt gs_veilref01_F_Abs 0) (gs_veilref01_F_Abs.length + 0) (memAt gs_veilref01_F_Abs 0 ++ (unc gs_veilref01_F_Abs.length (Ag.mk ((.one (.ints .i64 10))) x)).2) (fun i => lkL i (ls_veilref01_F_Abs)) 100 Tryd.f48 (unc gs_veilref01_F_Abs.length (Ag.mk ((.one (.ints .i64 10))) x)).1 none (Pt.get ((.ints .i64 10))) = veilref01_F_Abs_o x := by
  intro x; kernel_rfl
theorem s_veilref01_F_Abs {w0 : World}  (h47 : SoundAt Tryd.prog w0 47 ct_veilref01_F_Neg) : SoundAt Tryd.prog w0 48 ct_veilref01_F_Abs := by
  have hcs : ∀ x ∈ cs_veilref01_F_Abs, SoundAt Tryd.prog w0 x.1 x.2 := by
    intro x hx
    simp only [cs_veilref01_F_Abs, List.mem_cons, List.not_mem_nil, or_false] at hx
    rcases hx with rfl
    · exact h47
  exact sound_tct (fn_printed hcs (glob_nil _ _) Tryd.func48 (by kernel_rfl) (by kernel_rfl) (S := 0) (fun w _ => loopsOK_nil _) (fun _ => rfl) (r_veilref01_F_Abs)) fun _ _ => veilref01_F_Abs_tot _
theorem k_veilref01_F_Abs {w0 : World}  (hg_veilref01_F_Neg : GlobOK Tryd.prog w0 gs_veilref01_F_Neg) : SoundAt Tryd.prog w0 48 ct_veilref01_F_Abs :=
  s_veilref01_F_Abs (k_veilref01_F_Neg hg_veilref01_F_Neg)

def ct_veilref01_I : Ct := tct .nil (.ints .i64 10) fun x => veilref01_I
def cs_veilref01_I : List (FuncId × Ct) := []
def gs_veilref01_I : List Gv := []
noncomputable def ls_veilref01_I : List (Nat × Lf) := []
theorem r_veilref01_I : ∀ x, run Tryd.prog (fun g => lkG g (cs_veilref01_I)) (glAt gs_veilref01_I 0) (gs_veilref01_I.length + 0) (memAt gs_veilref01_I 0 ++ (unc gs_veilref01_I.length (Ag.mk (.nil) x)).2) (fun i => lkL i (ls_veilref01_I)) 100 Tryd.f45 (unc gs_veilref01_I.length (Ag.mk (.nil) x)).1 none (Pt.get ((.ints .i64 10))) = some (veilref01_I) := by
  intro x; kernel_rfl
theorem s_veilref01_I {w0 : World}  : SoundAt Tryd.prog w0 45 ct_veilref01_I := by
  have hcs : ∀ x ∈ cs_veilref01_I, SoundAt Tryd.prog w0 x.1 x.2 := by
    intro x hx
    simp [cs_veilref01_I] at hx
  exact sound_tct (fn_printed hcs (glob_nil _ _) Tryd.func45 (by kernel_rfl) (by kernel_rfl) (S := 0) (fun w _ => loopsOK_nil _) (fun _ => rfl) (r_veilref01_I)) fun _ _ => rfl
theorem k_veilref01_I {w0 : World}  : SoundAt Tryd.prog w0 45 ct_veilref01_I :=
  s_veilref01_I

def ct_veilref01_D : Ct := tct .nil (.ints .i64 10) fun x => veilref01_D
def cs_veilref01_D : List (FuncId × Ct) := []
def gs_veilref01_D : List Gv := []
noncomputable def ls_veilref01_D : List (Nat × Lf) := []
theorem r_veilref01_D : ∀ x, run Tryd.prog (fun g => lkG g (cs_veilref01_D)) (glAt gs_veilref01_D 0) (gs_veilref01_D.length + 0) (memAt gs_veilref01_D 0 ++ (unc gs_veilref01_D.length (Ag.mk (.nil) x)).2) (fun i => lkL i (ls_veilref01_D)) 100 Tryd.f44 (unc gs_veilref01_D.length (Ag.mk (.nil) x)).1 none (Pt.get ((.ints .i64 10))) = some (veilref01_D) := by
  intro x; kernel_rfl
theorem s_veilref01_D {w0 : World}  : SoundAt Tryd.prog w0 44 ct_veilref01_D := by
  have hcs : ∀ x ∈ cs_veilref01_D, SoundAt Tryd.prog w0 x.1 x.2 := by
    intro x hx
    simp [cs_veilref01_D] at hx
  exact sound_tct (fn_printed hcs (glob_nil _ _) Tryd.func44 (by kernel_rfl) (by kernel_rfl) (S := 0) (fun w _ => loopsOK_nil _) (fun _ => rfl) (r_veilref01_D)) fun _ _ => rfl
theorem k_veilref01_D {w0 : World}  : SoundAt Tryd.prog w0 44 ct_veilref01_D :=
  s_veilref01_D

def ct_veilref01_root (N : Nat) : Ct := fct (.one (.ints .i64 10)) (.tup (.cons (.ints .i64 10) (.one .bool))) fun x => veilref01_root N x
def cs_veilref01_root (N : Nat) : List (FuncId × Ct) := [(45, ct_veilref01_I), (46, (ct_veilref01_F_Mul N)), (48, ct_veilref01_F_Abs), (76, (ct_veilref01_F_ones N))]
def gs_veilref01_root : List Gv := [⟨2, 38, (.ints .i64 10 [0, 0, 0, 0, 0, 0, 0, 0, 0, 0])⟩]
noncomputable def ls_veilref01_root (N : Nat) : List (Nat × Lf) := []
theorem r_veilref01_root (N : Nat) : ∀ x, run Tryd.prog (fun g => lkG g (cs_veilref01_root N)) (glAt gs_veilref01_root 0) (gs_veilref01_root.length + 0) (memAt gs_veilref01_root 0 ++ (unc gs_veilref01_root.length (Ag.mk ((.one (.ints .i64 10))) x)).2) (fun i => lkL i (ls_veilref01_root N)) 100 Tryd.f71 (unc gs_veilref01_root.length (Ag.mk ((.one (.ints .i64 10))) x)).1 none (Pt.get ((.tup (.cons (.ints .i64 10) (.one .bool))))) = veilref01_root N x := by
  intro x; kernel_rfl
theorem s_veilref01_root {w0 : World} (N : Nat)  (h45 : SoundAt Tryd.prog w0 45 ct_veilref01_I) (h46 : SoundAt Tryd.prog w0 46 (ct_veilref01_F_Mul N)) (h48 : SoundAt Tryd.prog w0 48 ct_veilref01_F_Abs) (h76 : SoundAt Tryd.prog w0 76 (ct_veilref01_F_ones N)) (hg : GlobOK Tryd.prog w0 gs_veilref01_root) : SoundAt Tryd.prog w0 71 (ct_veilref01_root N) := by
  have hcs : ∀ x ∈ cs_veilref01_root N, SoundAt Tryd.prog w0 x.1 x.2 := by
    intro x hx
    simp only [cs_veilref01_root, List.mem_cons, List.not_mem_nil, or_false] at hx
    rcases hx with rfl | rfl | rfl | rfl
    · exact h45
    · exact h46
    · exact h48
    · exact h76
  exact fn_printed hcs hg Tryd.func71 (by kernel_rfl) (by kernel_rfl) (S := 0) (fun w _ => loopsOK_nil _) (fun _ => rfl) (r_veilref01_root N)
theorem k_veilref01_root {w0 : World} (N : Nat)  (hg_veilref01_least : GlobOK Tryd.prog w0 gs_veilref01_least) (hg_veilref01_F_Neg : GlobOK Tryd.prog w0 gs_veilref01_F_Neg) (hg_veilref01_root : GlobOK Tryd.prog w0 gs_veilref01_root) : SoundAt Tryd.prog w0 71 (ct_veilref01_root N) :=
  s_veilref01_root N (k_veilref01_I) (k_veilref01_F_Mul N hg_veilref01_least) (k_veilref01_F_Abs hg_veilref01_F_Neg) (k_veilref01_F_ones N hg_veilref01_least) hg_veilref01_root

def ct_veilref01_SqrtRatio (N : Nat) : Ct := fct (.cons (.ints .i64 10) (.one (.ints .i64 10))) (.tup (.cons (.ints .i64 10) (.one .bool))) fun x => veilref01_SqrtRatio N x.1 x.2
def cs_veilref01_SqrtRatio (N : Nat) : List (FuncId × Ct) := [(45, ct_veilref01_I), (46, (ct_veilref01_F_Mul N)), (50, (ct_veilref01_F_Invert N)), (71, (ct_veilref01_root N))]
def gs_veilref01_SqrtRatio : List Gv := [⟨2, 38, (.ints .i64 10 [0, 0, 0, 0, 0, 0, 0, 0, 0, 0])⟩]
noncomputable def ls_veilref01_SqrtRatio (N : Nat) : List (Nat × Lf) := []
theorem r_veilref01_SqrtRatio (N : Nat) : ∀ x, run Tryd.prog (fun g => lkG g (cs_veilref01_SqrtRatio N)) (glAt gs_veilref01_SqrtRatio 0) (gs_veilref01_SqrtRatio.length + 0) (memAt gs_veilref01_SqrtRatio 0 ++ (unc gs_veilref01_SqrtRatio.length (Ag.mk ((.cons (.ints .i64 10) (.one (.ints .i64 10)))) x)).2) (fun i => lkL i (ls_veilref01_SqrtRatio N)) 100 Tryd.f36 (unc gs_veilref01_SqrtRatio.length (Ag.mk ((.cons (.ints .i64 10) (.one (.ints .i64 10)))) x)).1 none (Pt.get ((.tup (.cons (.ints .i64 10) (.one .bool))))) = veilref01_SqrtRatio N x.1 x.2 := by
  intro x; kernel_rfl
theorem s_veilref01_SqrtRatio {w0 : World} (N : Nat)  (h45 : SoundAt Tryd.prog w0 45 ct_veilref01_I) (h46 : SoundAt Tryd.prog w0 46 (ct_veilref01_F_Mul N)) (h50 : SoundAt Tryd.prog w0 50 (ct_veilref01_F_Invert N)) (h71 : SoundAt Tryd.prog w0 71 (ct_veilref01_root N)) (hg : GlobOK Tryd.prog w0 gs_veilref01_SqrtRatio) : SoundAt Tryd.prog w0 36 (ct_veilref01_SqrtRatio N) := by
  have hcs : ∀ x ∈ cs_veilref01_SqrtRatio N, SoundAt Tryd.prog w0 x.1 x.2 := by
    intro x hx
    simp only [cs_veilref01_SqrtRatio, List.mem_cons, List.not_mem_nil, or_false] at hx
    rcases hx with rfl | rfl | rfl | rfl
    · exact h45
    · exact h46
    · exact h50
    · exact h71
  exact fn_printed hcs hg Tryd.func36 (by kernel_rfl) (by kernel_rfl) (S := 0) (fun w _ => loopsOK_nil _) (fun _ => rfl) (r_veilref01_SqrtRatio N)
theorem k_veilref01_SqrtRatio {w0 : World} (N : Nat)  (hg_veilref01_least : GlobOK Tryd.prog w0 gs_veilref01_least) (hg_veilref01_F_Neg : GlobOK Tryd.prog w0 gs_veilref01_F_Neg) (hg_veilref01_root : GlobOK Tryd.prog w0 gs_veilref01_root) (hg_veilref01_SqrtRatio : GlobOK Tryd.prog w0 gs_veilref01_SqrtRatio) : SoundAt Tryd.prog w0 36 (ct_veilref01_SqrtRatio N) :=
  s_veilref01_SqrtRatio N (k_veilref01_I) (k_veilref01_F_Mul N hg_veilref01_least) (k_veilref01_F_Invert N hg_veilref01_least) (k_veilref01_root N hg_veilref01_least hg_veilref01_F_Neg hg_veilref01_root) hg_veilref01_SqrtRatio

def ct_veilref01_Const (N : Nat) : Ct := fct (.one (.int .i64)) (.ints .i64 10) fun x => veilref01_Const N x
def cs_veilref01_Const (N : Nat) : List (FuncId × Ct) := [(37, (ct_veilref01_F_Sub N)), (44, ct_veilref01_D), (45, ct_veilref01_I), (46, (ct_veilref01_F_Mul N)), (47, ct_veilref01_F_Neg), (48, ct_veilref01_F_Abs), (50, (ct_veilref01_F_Invert N)), (71, (ct_veilref01_root N))]
def gs_veilref01_Const : List Gv := [⟨2, 38, (.ints .i64 10 [0, 0, 0, 0, 0, 0, 0, 0, 0, 0])⟩, ⟨0, 38, (.ints .i64 10 [1, 0, 0, 0, 0, 0, 0, 0, 0, 0])⟩]
noncomputable def ls_veilref01_Const (N : Nat) : List (Nat × Lf) := []
theorem r_veilref01_Const (N : Nat) : ∀ x, run Tryd.prog (fun g => lkG g (cs_veilref01_Const N)) (glAt gs_veilref01_Const 0) (gs_veilref01_Const.length + 0) (memAt gs_veilref01_Const 0 ++ (unc gs_veilref01_Const.length (Ag.mk ((.one (.int .i64))) x)).2) (fun i => lkL i (ls_veilref01_Const N)) 100 Tryd.f49 (unc gs_veilref01_Const.length (Ag.mk ((.one (.int .i64))) x)).1 none (Pt.get ((.ints .i64 10))) = veilref01_Const N x := by
  intro x; kernel_rfl
theorem s_veilref01_Const {w0 : World} (N : Nat)  (h37 : SoundAt Tryd.prog w0 37 (ct_veilref01_F_Sub N)) (h44 : SoundAt Tryd.prog w0 44 ct_veilref01_D) (h45 : SoundAt Tryd.prog w0 45 ct_veilref01_I) (h46 : SoundAt Tryd.prog w0 46 (ct_veilref01_F_Mul N)) (h47 : SoundAt Tryd.prog w0 47 ct_veilref01_F_Neg) (h48 : SoundAt Tryd.prog w0 48 ct_veilref01_F_Abs) (h50 : SoundAt Tryd.prog w0 50 (ct_veilref01_F_Invert N)) (h71 : SoundAt Tryd.prog w0 71 (ct_veilref01_root N)) (hg : GlobOK Tryd.prog w0 gs_veilref01_Const) : SoundAt Tryd.prog w0 49 (ct_veilref01_Const N) := by
  have hcs : ∀ x ∈ cs_veilref01_Const N, SoundAt Tryd.prog w0 x.1 x.2 := by
    intro x hx
    simp only [cs_veilref01_Const, List.mem_cons, List.not_mem_nil, or_false] at hx
    rcases hx with rfl | rfl | rfl | rfl | rfl | rfl | rfl | rfl
    · exact h37
    · exact h44
    · exact h45
    · exact h46
    · exact h47
    · exact h48
    · exact h50
    · exact h71
  exact fn_printed hcs hg Tryd.func49 (by kernel_rfl) (by kernel_rfl) (S := 0) (fun w _ => loopsOK_nil _) (fun _ => rfl) (r_veilref01_Const N)
theorem k_veilref01_Const {w0 : World} (N : Nat)  (hg_veilref01_least : GlobOK Tryd.prog w0 gs_veilref01_least) (hg_veilref01_F_Neg : GlobOK Tryd.prog w0 gs_veilref01_F_Neg) (hg_veilref01_root : GlobOK Tryd.prog w0 gs_veilref01_root) (hg_veilref01_Const : GlobOK Tryd.prog w0 gs_veilref01_Const) : SoundAt Tryd.prog w0 49 (ct_veilref01_Const N) :=
  s_veilref01_Const N (k_veilref01_F_Sub N hg_veilref01_least hg_veilref01_F_Neg) (k_veilref01_D) (k_veilref01_I) (k_veilref01_F_Mul N hg_veilref01_least) (k_veilref01_F_Neg hg_veilref01_F_Neg) (k_veilref01_F_Abs hg_veilref01_F_Neg) (k_veilref01_F_Invert N hg_veilref01_least) (k_veilref01_root N hg_veilref01_least hg_veilref01_F_Neg hg_veilref01_root) hg_veilref01_Const

def ct_veilref01_F_Encode (N : Nat) : Ct := fct (.one (.ints .i64 10)) (.ints .u8 32) fun x => veilref01_F_Encode N x
def cs_veilref01_F_Encode (N : Nat) : List (FuncId × Ct) := []
def gs_veilref01_F_Encode : List Gv := []
def veilref01_F_Encode_l0_H : Fm ((Unit × Unit × Unit × Int)) ((List Int × Unit × List Int)) := ⟨(.cons 1 (.lit (.ptr 0 [] 38)) (.cons 2 (.lit (.ptr 1 [] 27)) (.cons 3 (.lit (.ptr 2 [] 27)) (.one 4 (.int .i64))))), (.cons 0 (.ints .i64 10) (.cons 1 (.lit (.ints .u8 32 [0, 0, 0, 0, 0, 0, 0, 0, 0, 0, 0, 0, 0, 0, 0, 0, 0, 0, 0, 0, 0, 0, 0, 0, 0, 0, 0, 0, 0, 0, 0, 0])) (.one 2 (.ints .u8 32))))⟩
def veilref01_F_Encode_l0_O : Fm ((Unit × Unit)) ((Unit × List Int)) := ⟨(.cons 2 (.lit (.ptr 1 [] 27)) (.one 3 (.lit (.ptr 2 [] 27)))), (.cons 1 (.lit (.ints .u8 32 [0, 0, 0, 0, 0, 0, 0, 0, 0, 0, 0, 0, 0, 0, 0, 0, 0, 0, 0, 0, 0, 0, 0, 0, 0, 0, 0, 0, 0, 0, 0, 0])) (.one 2 (.ints .u8 32)))⟩
def veilref01_F_Encode_l0_T : Fm (Unit) (Unit) := ⟨.nil, .nil⟩
noncomputable def ls_veilref01_F_Encode (N : Nat) : List (Nat × Lf) := [(0, loopCt veilref01_F_Encode_l0_H veilref01_F_Encode_l0_O veilref01_F_Encode_l0_T 4 (veilref01_F_Encode_l0 N) N)]
theorem veilref01_F_Encode_l0_step (N : Nat) : ∀ v, exec Tryd.prog (cxOf Tryd.f41 (cs_veilref01_F_Encode N) gs_veilref01_F_Encode 0) (fun i => lkL i (ls_veilref01_F_Encode N)) 100 none (loopBody Tryd.f41 0) (veilref01_F_Encode_l0_H.st 4 v) (rdEnd veilref01_F_Encode_l0_H veilref01_F_Encode_l0_O veilref01_F_Encode_l0_T 4 0) = veilref01_F_Encode_l0 N v := by
  intro v; kernel_rfl
theorem r_veilref01_F_Encode (N : Nat) : ∀ x, run Tryd.prog (fun g => lkG g (cs_veilref01_F_Encode N)) (glAt gs_veilref01_F_Encode 0) (gs_veilref01_F_Encode.length + 0) (memAt gs_veilref01_F_Encode 0 ++ (unc gs_veilref01_F_Encode.length (Ag.mk ((.one (.ints .i64 10))) x)).2) (fun i => lkL i (ls_veilref01_F_Encode N)) 100 Tryd.f41 (unc gs_veilref01_F_Encode.length (Ag.mk ((.one (.ints .i64 10))) x)).1 none (Pt.get ((.ints .u8 32))) = veilref01_F_Encode N x := by
  intro x; kernel_rfl
theorem s_veilref01_F_Encode {w0 : World} (N : Nat)  : SoundAt Tryd.prog w0 41 (ct_veilref01_F_Encode N) := by
  have hcs : ∀ x ∈ cs_veilref01_F_Encode N, SoundAt Tryd.prog w0 x.1 x.2 := by
    intro x hx
    simp [cs_veilref01_F_Encode] at hx
  have L0 : ∀ w, RowKit.Below w0.heap.size w0 w → LoopOK Tryd.prog (cxOf Tryd.f41 (cs_veilref01_F_Encode N) gs_veilref01_F_Encode 0) w 0 (.loop (loopBody Tryd.f41 0)) (loopCt veilref01_F_Encode_l0_H veilref01_F_Encode_l0_O veilref01_F_Encode_l0_T 4 (veilref01_F_Encode_l0 N) N) :=
    loop_printed hcs (ls := ls_veilref01_F_Encode N) (n := 100) (by kernel_rfl) (veilref01_F_Encode_l0_step N) N fun w hw => loopsOK_list (by
      intro x hx
      simp only [ls_veilref01_F_Encode, List.mem_cons, List.not_mem_nil, or_false] at hx
      rcases hx with rfl
      · exact .inl (by kernel_rfl)
    )
  exact fn_printed hcs (glob_nil _ _) Tryd.func41 (by kernel_rfl) (by kernel_rfl) (S := 0) (fun w hw => loopsOK_list (by
    intro x hx
    simp only [ls_veilref01_F_Encode, List.mem_cons, List.not_mem_nil, or_false] at hx
    rcases hx with rfl
    · exact .inr ⟨_, by kernel_rfl, L0 w hw⟩
  )) (fun _ => rfl) (r_veilref01_F_Encode N)
theorem k_veilref01_F_Encode {w0 : World} (N : Nat)  : SoundAt Tryd.prog w0 41 (ct_veilref01_F_Encode N) :=
  s_veilref01_F_Encode N

def ct_veilref01_Number (N : Nat) : Ct := fct (.one (.tup (.cons (.lst .u8) (.one (.lit (.clo 5 [])))))) (.ints .i64 10) fun x => veilref01_Number N x
def cs_veilref01_Number (N : Nat) : List (FuncId × Ct) := [(51, (ct_veilref01_least N))]
def gs_veilref01_Number : List Gv := []
def veilref01_Number_l0_H : Fm ((Nat × Unit × Unit × Int)) (((Nat × List Int) × Unit × List Int)) := ⟨(.cons 0 (.slw 0 5) (.cons 2 (.lit (.ptr 1 [] 38)) (.cons 3 (.lit (.ptr 2 [] 84)) (.one 4 (.int .i64))))), (.cons 0 (.lst .u8) (.cons 1 (.lit (.ints .i64 10 [0, 0, 0, 0, 0, 0, 0, 0, 0, 0])) (.one 2 (.ints .i64 20))))⟩
def veilref01_Number_l0_O : Fm ((Unit × Unit)) ((Unit × List Int)) := ⟨(.cons 2 (.lit (.ptr 1 [] 38)) (.one 3 (.lit (.ptr 2 [] 84)))), (.cons 1 (.lit (.ints .i64 10 [0, 0, 0, 0, 0, 0, 0, 0, 0, 0])) (.one 2 (.ints .i64 20)))⟩
def veilref01_Number_l0_T : Fm (Unit) (Unit) := ⟨.nil, .nil⟩
noncomputable def ls_veilref01_Number (N : Nat) : List (Nat × Lf) := [(0, loopCt veilref01_Number_l0_H veilref01_Number_l0_O veilref01_Number_l0_T 4 (veilref01_Number_l0 N) N)]
theorem veilref01_Number_l0_step (N : Nat) : ∀ v, exec Tryd.prog (cxOf Tryd.f68 (cs_veilref01_Number N) gs_veilref01_Number 1) (fun i => lkL i (ls_veilref01_Number N)) 100 none (loopBody Tryd.f68 0) (veilref01_Number_l0_H.st 4 v) (rdEnd veilref01_Number_l0_H veilref01_Number_l0_O veilref01_Number_l0_T 4 0) = veilref01_Number_l0 N v := by
  intro v; kernel_rfl
theorem r_veilref01_Number (N : Nat) : ∀ x, run Tryd.prog (fun g => lkG g (cs_veilref01_Number N)) (glAt gs_veilref01_Number 0) (gs_veilref01_Number.length + 1) (memAt gs_veilref01_Number 0 ++ (unc gs_veilref01_Number.length (Ag.mk ((.one (.tup (.cons (.lst .u8) (.one (.lit (.clo 5 []))))))) x)).2) (fun i => lkL i (ls_veilref01_Number N)) 100 Tryd.f68 (unc gs_veilref01_Number.length (Ag.mk ((.one (.tup (.cons (.lst .u8) (.one (.lit (.clo 5 []))))))) x)).1 none (Pt.get ((.ints .i64 10))) = veilref01_Number N x := by
  intro x; kernel_rfl
theorem s_veilref01_Number {w0 : World} (N : Nat)  (h51 : SoundAt Tryd.prog w0 51 (ct_veilref01_least N)) : SoundAt Tryd.prog w0 68 (ct_veilref01_Number N) := by
  have hcs : ∀ x ∈ cs_veilref01_Number N, SoundAt Tryd.prog w0 x.1 x.2 := by
    intro x hx
    simp only [cs_veilref01_Number, List.mem_cons, List.not_mem_nil, or_false] at hx
    rcases hx with rfl
    · exact h51
  have L0 : ∀ w, RowKit.Below w0.heap.size w0 w → LoopOK Tryd.prog (cxOf Tryd.f68 (cs_veilref01_Number N) gs_veilref01_Number 1) w 0 (.loop (loopBody Tryd.f68 0)) (loopCt veilref01_Number_l0_H veilref01_Number_l0_O veilref01_Number_l0_T 4 (veilref01_Number_l0 N) N) :=
    loop_printed hcs (ls := ls_veilref01_Number N) (n := 100) (by kernel_rfl) (veilref01_Number_l0_step N) N fun w hw => loopsOK_list (by
      intro x hx
      simp only [ls_veilref01_Number, List.mem_cons, List.not_mem_nil, or_false] at hx
      rcases hx with rfl
      · exact .inl (by kernel_rfl)
    )
  exact fn_printed hcs (glob_nil _ _) Tryd.func68 (by kernel_rfl) (by kernel_rfl) (S := 1) (fun w hw => loopsOK_list (by
    intro x hx
    simp only [ls_veilref01_Number, List.mem_cons, List.not_mem_nil, or_false] at hx
    rcases hx with rfl
    · exact .inr ⟨_, by kernel_rfl, L0 w hw⟩
  )) (fun _ => rfl) (r_veilref01_Number N)
theorem k_veilref01_Number {w0 : World} (N : Nat)  (hg_veilref01_least : GlobOK Tryd.prog w0 gs_veilref01_least) : SoundAt Tryd.prog w0 68 (ct_veilref01_Number N) :=
  s_veilref01_Number N (k_veilref01_least N hg_veilref01_least)

def ct_veilref01_Decode (N : Nat) : Ct := fct (.one (.ints .u8 32)) (.tup (.cons (.ints .i64 10) (.one (.int .i64)))) fun x => veilref01_Decode N x
def cs_veilref01_Decode (N : Nat) : List (FuncId × Ct) := [(41, (ct_veilref01_F_Encode N)), (68, (ct_veilref01_Number N))]
def gs_veilref01_Decode : List Gv := []
noncomputable def ls_veilref01_Decode (N : Nat) : List (Nat × Lf) := []
theorem r_veilref01_Decode (N : Nat) : ∀ x, run Tryd.prog (fun g => lkG g (cs_veilref01_Decode N)) (glAt gs_veilref01_Decode 0) (gs_veilref01_Decode.length + 0) (memAt gs_veilref01_Decode 0 ++ (unc gs_veilref01_Decode.length (Ag.mk ((.one (.ints .u8 32))) x)).2) (fun i => lkL i (ls_veilref01_Decode N)) 100 Tryd.f54 (unc gs_veilref01_Decode.length (Ag.mk ((.one (.ints .u8 32))) x)).1 none (Pt.get ((.tup (.cons (.ints .i64 10) (.one (.int .i64)))))) = veilref01_Decode N x := by
  intro x; kernel_rfl
theorem s_veilref01_Decode {w0 : World} (N : Nat)  (h41 : SoundAt Tryd.prog w0 41 (ct_veilref01_F_Encode N)) (h68 : SoundAt Tryd.prog w0 68 (ct_veilref01_Number N)) : SoundAt Tryd.prog w0 54 (ct_veilref01_Decode N) := by
  have hcs : ∀ x ∈ cs_veilref01_Decode N, SoundAt Tryd.prog w0 x.1 x.2 := by
    intro x hx
    simp only [cs_veilref01_Decode, List.mem_cons, List.not_mem_nil, or_false] at hx
    rcases hx with rfl | rfl
    · exact h41
    · exact h68
  exact fn_printed hcs (glob_nil _ _) Tryd.func54 (by kernel_rfl) (by kernel_rfl) (S := 0) (fun w _ => loopsOK_nil _) (fun _ => rfl) (r_veilref01_Decode N)
theorem k_veilref01_Decode {w0 : World} (N : Nat)  (hg_veilref01_least : GlobOK Tryd.prog w0 gs_veilref01_least) : SoundAt Tryd.prog w0 54 (ct_veilref01_Decode N) :=
  s_veilref01_Decode N (k_veilref01_F_Encode N) (k_veilref01_Number N hg_veilref01_least)

def ct_veilref01_Reduce (N : Nat) : Ct := fct (.one (.ints .u8 32)) (.ints .i64 10) fun x => veilref01_Reduce N x
def cs_veilref01_Reduce (N : Nat) : List (FuncId × Ct) := [(68, (ct_veilref01_Number N))]
def gs_veilref01_Reduce : List Gv := []
noncomputable def ls_veilref01_Reduce (N : Nat) : List (Nat × Lf) := []
theorem r_veilref01_Reduce (N : Nat) : ∀ x, run Tryd.prog (fun g => lkG g (cs_veilref01_Reduce N)) (glAt gs_veilref01_Reduce 0) (gs_veilref01_Reduce.length + 0) (memAt gs_veilref01_Reduce 0 ++ (unc gs_veilref01_Reduce.length (Ag.mk ((.one (.ints .u8 32))) x)).2) (fun i => lkL i (ls_veilref01_Reduce N)) 100 Tryd.f32 (unc gs_veilref01_Reduce.length (Ag.mk ((.one (.ints .u8 32))) x)).1 none (Pt.get ((.ints .i64 10))) = veilref01_Reduce N x := by
  intro x; kernel_rfl
theorem s_veilref01_Reduce {w0 : World} (N : Nat)  (h68 : SoundAt Tryd.prog w0 68 (ct_veilref01_Number N)) : SoundAt Tryd.prog w0 32 (ct_veilref01_Reduce N) := by
  have hcs : ∀ x ∈ cs_veilref01_Reduce N, SoundAt Tryd.prog w0 x.1 x.2 := by
    intro x hx
    simp only [cs_veilref01_Reduce, List.mem_cons, List.not_mem_nil, or_false] at hx
    rcases hx with rfl
    · exact h68
  exact fn_printed hcs (glob_nil _ _) Tryd.func32 (by kernel_rfl) (by kernel_rfl) (S := 0) (fun w _ => loopsOK_nil _) (fun _ => rfl) (r_veilref01_Reduce N)
theorem k_veilref01_Reduce {w0 : World} (N : Nat)  (hg_veilref01_least : GlobOK Tryd.prog w0 gs_veilref01_least) : SoundAt Tryd.prog w0 32 (ct_veilref01_Reduce N) :=
  s_veilref01_Reduce N (k_veilref01_Number N hg_veilref01_least)

def ct_curve_place_whole : Ct := tct (.one (.agg (.cons (.ints .u64 5) (.cons (.ints .u64 5) (.cons (.ints .u64 5) (.one (.ints .u64 5))))))) (.agg (.cons (.ints .u64 5) (.cons (.ints .u64 5) (.cons (.ints .u64 5) (.one (.ints .u64 5)))))) fun x => curve_place_whole x
def cs_curve_place_whole : List (FuncId × Ct) := []
def gs_curve_place_whole : List Gv := [⟨3, 28, (.ints .u64 5 [1, 0, 0, 0, 0])⟩]
noncomputable def ls_curve_place_whole : List (Nat × Lf) := []
theorem r_curve_place_whole : ∀ x, run Tryd.prog (fun g => lkG g (cs_curve_place_whole)) (glAt gs_curve_place_whole 0) (gs_curve_place_whole.length + 0) (memAt gs_curve_place_whole 0 ++ (unc gs_curve_place_whole.length (Ag.mk ((.one (.agg (.cons (.ints .u64 5) (.cons (.ints .u64 5) (.cons (.ints .u64 5) (.one (.ints .u64 5)))))))) x)).2) (fun i => lkL i (ls_curve_place_whole)) 100 Tryd.f62 (unc gs_curve_place_whole.length (Ag.mk ((.one (.agg (.cons (.ints .u64 5) (.cons (.ints .u64 5) (.cons (.ints .u64 5) (.one (.ints .u64 5)))))))) x)).1 none (Pt.get ((.agg (.cons (.ints .u64 5) (.cons (.ints .u64 5) (.cons (.ints .u64 5) (.one (.ints .u64 5)))))))) = curve_place_whole_o x := by
  intro x; kernel_rfl
theorem s_curve_place_whole {w0 : World}  (hg : GlobOK Tryd.prog w0 gs_curve_place_whole) : SoundAt Tryd.prog w0 62 ct_curve_place_whole := by
  have hcs : ∀ x ∈ cs_curve_place_whole, SoundAt Tryd.prog w0 x.1 x.2 := by
    intro x hx
    simp [cs_curve_place_whole] at hx
  exact sound_tct (fn_printed hcs hg Tryd.func62 (by kernel_rfl) (by kernel_rfl) (S := 0) (fun w _ => loopsOK_nil _) (fun _ => rfl) (r_curve_place_whole)) fun _ _ => curve_place_whole_tot _
theorem k_curve_place_whole {w0 : World}  (hg_curve_place_whole : GlobOK Tryd.prog w0 gs_curve_place_whole) : SoundAt Tryd.prog w0 62 ct_curve_place_whole :=
  s_curve_place_whole hg_curve_place_whole

def ct_curve_at : Ct := fct (.cons (.ints .u64 5) (.one (.ints .u64 5))) (.agg (.one (.agg (.cons (.ints .u64 5) (.cons (.ints .u64 5) (.cons (.ints .u64 5) (.one (.ints .u64 5)))))))) fun x => curve_at x.1 x.2
def cs_curve_at : List (FuncId × Ct) := [(20, ct_field_Elem_Mul)]
def gs_curve_at : List Gv := [⟨3, 28, (.ints .u64 5 [1, 0, 0, 0, 0])⟩]
noncomputable def ls_curve_at : List (Nat × Lf) := []
theorem r_curve_at : ∀ x, run Tryd.prog (fun g => lkG g (cs_curve_at)) (glAt gs_curve_at 0) (gs_curve_at.length + 0) (memAt gs_curve_at 0 ++ (unc gs_curve_at.length (Ag.mk ((.cons (.ints .u64 5) (.one (.ints .u64 5)))) x)).2) (fun i => lkL i (ls_curve_at)) 100 Tryd.f74 (unc gs_curve_at.length (Ag.mk ((.cons (.ints .u64 5) (.one (.ints .u64 5)))) x)).1 none (Pt.get ((.agg (.one (.agg (.cons (.ints .u64 5) (.cons (.ints .u64 5) (.cons (.ints .u64 5) (.one (.ints .u64 5)))))))))) = curve_at x.1 x.2 := by
  intro x; kernel_rfl
theorem s_curve_at {w0 : World}  (h20 : SoundAt Tryd.prog w0 20 ct_field_Elem_Mul) (hg : GlobOK Tryd.prog w0 gs_curve_at) : SoundAt Tryd.prog w0 74 ct_curve_at := by
  have hcs : ∀ x ∈ cs_curve_at, SoundAt Tryd.prog w0 x.1 x.2 := by
    intro x hx
    simp only [cs_curve_at, List.mem_cons, List.not_mem_nil, or_false] at hx
    rcases hx with rfl
    · exact h20
  exact fn_printed hcs hg Tryd.func74 (by kernel_rfl) (by kernel_rfl) (S := 0) (fun w _ => loopsOK_nil _) (fun _ => rfl) (r_curve_at)
theorem k_curve_at {w0 : World}  (hg_curve_at : GlobOK Tryd.prog w0 gs_curve_at) : SoundAt Tryd.prog w0 74 ct_curve_at :=
  s_curve_at (k_field_Elem_Mul) hg_curve_at

def ct_curve_made : Ct := fct (.cons (.ints .u64 5) (.cons (.ints .u64 5) (.cons (.ints .u64 5) (.one (.ints .u64 5))))) (.agg (.one (.agg (.cons (.ints .u64 5) (.cons (.ints .u64 5) (.cons (.ints .u64 5) (.one (.ints .u64 5)))))))) fun x => curve_made x.1 x.2.1 x.2.2.1 x.2.2.2
def cs_curve_made : List (FuncId × Ct) := [(20, ct_field_Elem_Mul)]
def gs_curve_made : List Gv := []
noncomputable def ls_curve_made : List (Nat × Lf) := []
theorem r_curve_made : ∀ x, run Tryd.prog (fun g => lkG g (cs_curve_made)) (glAt gs_curve_made 0) (gs_curve_made.length + 0) (memAt gs_curve_made 0 ++ (unc gs_curve_made.length (Ag.mk ((.cons (.ints .u64 5) (.cons (.ints .u64 5) (.cons (.ints .u64 5) (.one (.ints .u64 5)))))) x)).2) (fun i => lkL i (ls_curve_made)) 100 Tryd.f81 (unc gs_curve_made.length (Ag.mk ((.cons (.ints .u64 5) (.cons (.ints .u64 5) (.cons (.ints .u64 5) (.one (.ints .u64 5)))))) x)).1 none (Pt.get ((.agg (.one (.agg (.cons (.ints .u64 5) (.cons (.ints .u64 5) (.cons (.ints .u64 5) (.one (.ints .u64 5)))))))))) = curve_made x.1 x.2.1 x.2.2.1 x.2.2.2 := by
  intro x; kernel_rfl
theorem s_curve_made {w0 : World}  (h20 : SoundAt Tryd.prog w0 20 ct_field_Elem_Mul) : SoundAt Tryd.prog w0 81 ct_curve_made := by
  have hcs : ∀ x ∈ cs_curve_made, SoundAt Tryd.prog w0 x.1 x.2 := by
    intro x hx
    simp only [cs_curve_made, List.mem_cons, List.not_mem_nil, or_false] at hx
    rcases hx with rfl
    · exact h20
  exact fn_printed hcs (glob_nil _ _) Tryd.func81 (by kernel_rfl) (by kernel_rfl) (S := 0) (fun w _ => loopsOK_nil _) (fun _ => rfl) (r_curve_made)
theorem k_curve_made {w0 : World}  : SoundAt Tryd.prog w0 81 ct_curve_made :=
  s_curve_made (k_field_Elem_Mul)

def ct_curve_Point_Add : Ct := fct (.cons (.agg (.one (.agg (.cons (.ints .u64 5) (.cons (.ints .u64 5) (.cons (.ints .u64 5) (.one (.ints .u64 5)))))))) (.one (.agg (.one (.agg (.cons (.ints .u64 5) (.cons (.ints .u64 5) (.cons (.ints .u64 5) (.one (.ints .u64 5)))))))))) (.agg (.one (.agg (.cons (.ints .u64 5) (.cons (.ints .u64 5) (.cons (.ints .u64 5) (.one (.ints .u64 5)))))))) fun x => curve_Point_Add x.1 x.2
def cs_curve_Point_Add : List (FuncId × Ct) := [(20, ct_field_Elem_Mul), (21, ct_field_Elem_Add), (22, ct_field_Elem_Sub), (62, ct_curve_place_whole), (81, ct_curve_made)]
def gs_curve_Point_Add : List Gv := [⟨6, 28, (.ints .u64 5 [1859910466990425, 932731440258426, 1072319116312658, 1815898335770999, 633789495995903])⟩]
noncomputable def ls_curve_Point_Add : List (Nat × Lf) := []
theorem r_curve_Point_Add : ∀ x, run Tryd.prog (fun g => lkG g (cs_curve_Point_Add)) (glAt gs_curve_Point_Add 0) (gs_curve_Point_Add.length + 0) (memAt gs_curve_Point_Add 0 ++ (unc gs_curve_Point_Add.length (Ag.mk ((.cons (.agg (.one (.agg (.cons (.ints .u64 5) (.cons (.ints .u64 5) (.cons (.ints .u64 5) (.one (.ints .u64 5)))))))) (.one (.agg (.one (.agg (.cons (.ints .u64 5) (.cons (.ints .u64 5) (.cons (.ints .u64 5) (.one (.ints .u64 5))))))))))) x)).2) (fun i => lkL i (ls_curve_Point_Add)) 100 Tryd.f61 (unc gs_curve_Point_Add.length (Ag.mk ((.cons (.agg (.one (.agg (.cons (.ints .u64 5) (.cons (.ints .u64 5) (.cons (.ints .u64 5) (.one (.ints .u64 5)))))))) (.one (.agg (.one (.agg (.cons (.ints .u64 5) (.cons (.ints .u64 5) (.cons (.ints .u64 5) (.one (.ints .u64 5))))))))))) x)).1 none (Pt.get ((.agg (.one (.agg (.cons (.ints .u64 5) (.cons (.ints .u64 5) (.cons (.ints .u64 5) (.one (.ints .u64 5)))))))))) = curve_Point_Add x.1 x.2 := by
  intro x; kernel_rfl
theorem s_curve_Point_Add {w0 : World}  (h20 : SoundAt Tryd.prog w0 20 ct_field_Elem_Mul) (h21 : SoundAt Tryd.prog w0 21 ct_field_Elem_Add) (h22 : SoundAt Tryd.prog w0 22 ct_field_Elem_Sub) (h62 : SoundAt Tryd.prog w0 62 ct_curve_place_whole) (h81 : SoundAt Tryd.prog w0 81 ct_curve_made) (hg : GlobOK Tryd.prog w0 gs_curve_Point_Add) : SoundAt Tryd.prog w0 61 ct_curve_Point_Add := by
  have hcs : ∀ x ∈ cs_curve_Point_Add, SoundAt Tryd.prog w0 x.1 x.2 := by
    intro x hx
    simp only [cs_curve_Point_Add, List.mem_cons, List.not_mem_nil, or_false] at hx
    rcases hx with rfl | rfl | rfl | rfl | rfl
    · exact h20
    · exact h21
    · exact h22
    · exact h62
    · exact h81
  exact fn_printed hcs hg Tryd.func61 (by kernel_rfl) (by kernel_rfl) (S := 0) (fun w _ => loopsOK_nil _) (fun _ => rfl) (r_curve_Point_Add)
theorem k_curve_Point_Add {w0 : World}  (hg_curve_place_whole : GlobOK Tryd.prog w0 gs_curve_place_whole) (hg_curve_Point_Add : GlobOK Tryd.prog w0 gs_curve_Point_Add) : SoundAt Tryd.prog w0 61 ct_curve_Point_Add :=
  s_curve_Point_Add (k_field_Elem_Mul) (k_field_Elem_Add) (k_field_Elem_Sub) (k_curve_place_whole hg_curve_place_whole) (k_curve_made) hg_curve_Point_Add

def ct_curve_Point_Affine (N : Nat) : Ct := fct (.one (.agg (.one (.agg (.cons (.ints .u64 5) (.cons (.ints .u64 5) (.cons (.ints .u64 5) (.one (.ints .u64 5))))))))) (.tup (.cons (.ints .u64 5) (.one (.ints .u64 5)))) fun x => curve_Point_Affine N x
def cs_curve_Point_Affine (N : Nat) : List (FuncId × Ct) := [(20, ct_field_Elem_Mul), (42, (ct_field_Elem_Invert N)), (62, ct_curve_place_whole)]
def gs_curve_Point_Affine : List Gv := []
noncomputable def ls_curve_Point_Affine (N : Nat) : List (Nat × Lf) := []
theorem r_curve_Point_Affine (N : Nat) : ∀ x, run Tryd.prog (fun g => lkG g (cs_curve_Point_Affine N)) (glAt gs_curve_Point_Affine 0) (gs_curve_Point_Affine.length + 0) (memAt gs_curve_Point_Affine 0 ++ (unc gs_curve_Point_Affine.length (Ag.mk ((.one (.agg (.one (.agg (.cons (.ints .u64 5) (.cons (.ints .u64 5) (.cons (.ints .u64 5) (.one (.ints .u64 5)))))))))) x)).2) (fun i => lkL i (ls_curve_Point_Affine N)) 100 Tryd.f18 (unc gs_curve_Point_Affine.length (Ag.mk ((.one (.agg (.one (.agg (.cons (.ints .u64 5) (.cons (.ints .u64 5) (.cons (.ints .u64 5) (.one (.ints .u64 5)))))))))) x)).1 none (Pt.get ((.tup (.cons (.ints .u64 5) (.one (.ints .u64 5)))))) = curve_Point_Affine N x := by
  intro x; kernel_rfl
theorem s_curve_Point_Affine {w0 : World} (N : Nat)  (h20 : SoundAt Tryd.prog w0 20 ct_field_Elem_Mul) (h42 : SoundAt Tryd.prog w0 42 (ct_field_Elem_Invert N)) (h62 : SoundAt Tryd.prog w0 62 ct_curve_place_whole) : SoundAt Tryd.prog w0 18 (ct_curve_Point_Affine N) := by
  have hcs : ∀ x ∈ cs_curve_Point_Affine N, SoundAt Tryd.prog w0 x.1 x.2 := by
    intro x hx
    simp only [cs_curve_Point_Affine, List.mem_cons, List.not_mem_nil, or_false] at hx
    rcases hx with rfl | rfl | rfl
    · exact h20
    · exact h42
    · exact h62
  exact fn_printed hcs (glob_nil _ _) Tryd.func18 (by kernel_rfl) (by kernel_rfl) (S := 0) (fun w _ => loopsOK_nil _) (fun _ => rfl) (r_curve_Point_Affine N)
theorem k_curve_Point_Affine {w0 : World} (N : Nat)  (hg_curve_place_whole : GlobOK Tryd.prog w0 gs_curve_place_whole) : SoundAt Tryd.prog w0 18 (ct_curve_Point_Affine N) :=
  s_curve_Point_Affine N (k_field_Elem_Mul) (k_field_Elem_Invert N) (k_curve_place_whole hg_curve_place_whole)

def ct_curve_FromAffine : Ct := fct (.cons (.ints .u64 5) (.one (.ints .u64 5))) (.tup (.cons (.agg (.one (.agg (.cons (.ints .u64 5) (.cons (.ints .u64 5) (.cons (.ints .u64 5) (.one (.ints .u64 5)))))))) (.one (.int .i64)))) fun x => curve_FromAffine x.1 x.2
def cs_curve_FromAffine : List (FuncId × Ct) := [(20, ct_field_Elem_Mul), (21, ct_field_Elem_Add), (22, ct_field_Elem_Sub), (24, ct_field_Elem_Square), (27, ct_field_Const), (60, ct_field_Elem_Least), (74, ct_curve_at)]
def gs_curve_FromAffine : List Gv := [⟨3, 28, (.ints .u64 5 [1, 0, 0, 0, 0])⟩]
noncomputable def ls_curve_FromAffine : List (Nat × Lf) := []
theorem r_curve_FromAffine : ∀ x, run Tryd.prog (fun g => lkG g (cs_curve_FromAffine)) (glAt gs_curve_FromAffine 0) (gs_curve_FromAffine.length + 0) (memAt gs_curve_FromAffine 0 ++ (unc gs_curve_FromAffine.length (Ag.mk ((.cons (.ints .u64 5) (.one (.ints .u64 5)))) x)).2) (fun i => lkL i (ls_curve_FromAffine)) 100 Tryd.f43 (unc gs_curve_FromAffine.length (Ag.mk ((.cons (.ints .u64 5) (.one (.ints .u64 5)))) x)).1 none (Pt.get ((.tup (.cons (.agg (.one (.agg (.cons (.ints .u64 5) (.cons (.ints .u64 5) (.cons (.ints .u64 5) (.one (.ints .u64 5)))))))) (.one (.int .i64)))))) = curve_FromAffine x.1 x.2 := by
  intro x; kernel_rfl
theorem s_curve_FromAffine {w0 : World}  (h20 : SoundAt Tryd.prog w0 20 ct_field_Elem_Mul) (h21 : SoundAt Tryd.prog w0 21 ct_field_Elem_Add) (h22 : SoundAt Tryd.prog w0 22 ct_field_Elem_Sub) (h24 : SoundAt Tryd.prog w0 24 ct_field_Elem_Square) (h27 : SoundAt Tryd.prog w0 27 ct_field_Const) (h60 : SoundAt Tryd.prog w0 60 ct_field_Elem_Least) (h74 : SoundAt Tryd.prog w0 74 ct_curve_at) (hg : GlobOK Tryd.prog w0 gs_curve_FromAffine) : SoundAt Tryd.prog w0 43 ct_curve_FromAffine := by
  have hcs : ∀ x ∈ cs_curve_FromAffine, SoundAt Tryd.prog w0 x.1 x.2 := by
    intro x hx
    simp only [cs_curve_FromAffine, List.mem_cons, List.not_mem_nil, or_false] at hx
    rcases hx with rfl | rfl | rfl | rfl | rfl | rfl | rfl
    · exact h20
    · exact h21
    · exact h22
    · exact h24
    · exact h27
    · exact h60
    · exact h74
  exact fn_printed hcs hg Tryd.func43 (by kernel_rfl) (by kernel_rfl) (S := 0) (fun w _ => loopsOK_nil _) (fun _ => rfl) (r_curve_FromAffine)
theorem k_curve_FromAffine {w0 : World}  (hg_field_Const : GlobOK Tryd.prog w0 gs_field_Const) (hg_curve_at : GlobOK Tryd.prog w0 gs_curve_at) (hg_curve_FromAffine : GlobOK Tryd.prog w0 gs_curve_FromAffine) : SoundAt Tryd.prog w0 43 ct_curve_FromAffine :=
  s_curve_FromAffine (k_field_Elem_Mul) (k_field_Elem_Add) (k_field_Elem_Sub) (k_field_Elem_Square) (k_field_Const hg_field_Const) (k_field_Elem_Least) (k_curve_at hg_curve_at) hg_curve_FromAffine

def ct_curve_Base : Ct := tct .nil (.agg (.one (.agg (.cons (.ints .u64 5) (.cons (.ints .u64 5) (.cons (.ints .u64 5) (.one (.ints .u64 5)))))))) fun x => curve_Base
def cs_curve_Base : List (FuncId × Ct) := []
def gs_curve_Base : List Gv := [⟨5, 32, (.agg [(.agg [(.ints .u64 5 [1738742601995546, 1146398526822698, 2070867633025821, 562264141797630, 587772402128613]), (.ints .u64 5 [1801439850948184, 1351079888211148, 450359962737049, 900719925474099, 1801439850948198]), (.ints .u64 5 [1, 0, 0, 0, 0]), (.ints .u64 5 [1841354044333475, 16398895984059, 755974180946558, 900171276175154, 1821297809914039])])])⟩]
noncomputable def ls_curve_Base : List (Nat × Lf) := []
theorem r_curve_Base : ∀ x, run Tryd.prog (fun g => lkG g (cs_curve_Base)) (glAt gs_curve_Base 0) (gs_curve_Base.length + 0) (memAt gs_curve_Base 0 ++ (unc gs_curve_Base.length (Ag.mk (.nil) x)).2) (fun i => lkL i (ls_curve_Base)) 100 Tryd.f57 (unc gs_curve_Base.length (Ag.mk (.nil) x)).1 none (Pt.get ((.agg (.one (.agg (.cons (.ints .u64 5) (.cons (.ints .u64 5) (.cons (.ints .u64 5) (.one (.ints .u64 5)))))))))) = some (curve_Base) := by
  intro x; kernel_rfl
theorem s_curve_Base {w0 : World}  (hg : GlobOK Tryd.prog w0 gs_curve_Base) : SoundAt Tryd.prog w0 57 ct_curve_Base := by
  have hcs : ∀ x ∈ cs_curve_Base, SoundAt Tryd.prog w0 x.1 x.2 := by
    intro x hx
    simp [cs_curve_Base] at hx
  exact sound_tct (fn_printed hcs hg Tryd.func57 (by kernel_rfl) (by kernel_rfl) (S := 0) (fun w _ => loopsOK_nil _) (fun _ => rfl) (r_curve_Base)) fun _ _ => rfl
theorem k_curve_Base {w0 : World}  (hg_curve_Base : GlobOK Tryd.prog w0 gs_curve_Base) : SoundAt Tryd.prog w0 57 ct_curve_Base :=
  s_curve_Base hg_curve_Base

def ct_veilref04_Neutral : Ct := tct .nil (.agg (.cons (.ints .i64 10) (.one (.ints .i64 10)))) fun x => veilref04_Neutral
def cs_veilref04_Neutral : List (FuncId × Ct) := []
def gs_veilref04_Neutral : List Gv := [⟨0, 38, (.ints .i64 10 [1, 0, 0, 0, 0, 0, 0, 0, 0, 0])⟩]
noncomputable def ls_veilref04_Neutral : List (Nat × Lf) := []
theorem r_veilref04_Neutral : ∀ x, run Tryd.prog (fun g => lkG g (cs_veilref04_Neutral)) (glAt gs_veilref04_Neutral 0) (gs_veilref04_Neutral.length + 0) (memAt gs_veilref04_Neutral 0 ++ (unc gs_veilref04_Neutral.length (Ag.mk (.nil) x)).2) (fun i => lkL i (ls_veilref04_Neutral)) 100 Tryd.f70 (unc gs_veilref04_Neutral.length (Ag.mk (.nil) x)).1 none (Pt.get ((.agg (.cons (.ints .i64 10) (.one (.ints .i64 10)))))) = some (veilref04_Neutral) := by
  intro x; kernel_rfl
theorem s_veilref04_Neutral {w0 : World}  (hg : GlobOK Tryd.prog w0 gs_veilref04_Neutral) : SoundAt Tryd.prog w0 70 ct_veilref04_Neutral := by
  have hcs : ∀ x ∈ cs_veilref04_Neutral, SoundAt Tryd.prog w0 x.1 x.2 := by
    intro x hx
    simp [cs_veilref04_Neutral] at hx
  exact sound_tct (fn_printed hcs hg Tryd.func70 (by kernel_rfl) (by kernel_rfl) (S := 0) (fun w _ => loopsOK_nil _) (fun _ => rfl) (r_veilref04_Neutral)) fun _ _ => rfl
theorem k_veilref04_Neutral {w0 : World}  (hg_veilref04_Neutral : GlobOK Tryd.prog w0 gs_veilref04_Neutral) : SoundAt Tryd.prog w0 70 ct_veilref04_Neutral :=
  s_veilref04_Neutral hg_veilref04_Neutral

def ct_veilref04_Point_Add (N : Nat) : Ct := fct (.cons (.agg (.cons (.ints .i64 10) (.one (.ints .i64 10)))) (.one (.agg (.cons (.ints .i64 10) (.one (.ints .i64 10)))))) (.agg (.cons (.ints .i64 10) (.one (.ints .i64 10)))) fun x => veilref04_Point_Add N x.1 x.2
def cs_veilref04_Point_Add (N : Nat) : List (FuncId × Ct) := [(37, (ct_veilref01_F_Sub N)), (38, (ct_veilref01_F_Add N)), (44, ct_veilref01_D), (46, (ct_veilref01_F_Mul N)), (50, (ct_veilref01_F_Invert N))]
def gs_veilref04_Point_Add : List Gv := [⟨0, 38, (.ints .i64 10 [1, 0, 0, 0, 0, 0, 0, 0, 0, 0])⟩]
noncomputable def ls_veilref04_Point_Add (N : Nat) : List (Nat × Lf) := []
theorem r_veilref04_Point_Add (N : Nat) : ∀ x, run Tryd.prog (fun g => lkG g (cs_veilref04_Point_Add N)) (glAt gs_veilref04_Point_Add 0) (gs_veilref04_Point_Add.length + 0) (memAt gs_veilref04_Point_Add 0 ++ (unc gs_veilref04_Point_Add.length (Ag.mk ((.cons (.agg (.cons (.ints .i64 10) (.one (.ints .i64 10)))) (.one (.agg (.cons (.ints .i64 10) (.one (.ints .i64 10))))))) x)).2) (fun i => lkL i (ls_veilref04_Point_Add N)) 100 Tryd.f69 (unc gs_veilref04_Point_Add.length (Ag.mk ((.cons (.agg (.cons (.ints .i64 10) (.one (.ints .i64 10)))) (.one (.agg (.cons (.ints .i64 10) (.one (.ints .i64 10))))))) x)).1 none (Pt.get ((.agg (.cons (.ints .i64 10) (.one (.ints .i64 10)))))) = veilref04_Point_Add N x.1 x.2 := by
  intro x; kernel_rfl
theorem s_veilref04_Point_Add {w0 : World} (N : Nat)  (h37 : SoundAt Tryd.prog w0 37 (ct_veilref01_F_Sub N)) (h38 : SoundAt Tryd.prog w0 38 (ct_veilref01_F_Add N)) (h44 : SoundAt Tryd.prog w0 44 ct_veilref01_D) (h46 : SoundAt Tryd.prog w0 46 (ct_veilref01_F_Mul N)) (h50 : SoundAt Tryd.prog w0 50 (ct_veilref01_F_Invert N)) (hg : GlobOK Tryd.prog w0 gs_veilref04_Point_Add) : SoundAt Tryd.prog w0 69 (ct_veilref04_Point_Add N) := by
  have hcs : ∀ x ∈ cs_veilref04_Point_Add N, SoundAt Tryd.prog w0 x.1 x.2 := by
    intro x hx
    simp only [cs_veilref04_Point_Add, List.mem_cons, List.not_mem_nil, or_false] at hx
    rcases hx with rfl | rfl | rfl | rfl | rfl
    · exact h37
    · exact h38
    · exact h44
    · exact h46
    · exact h50
  exact fn_printed hcs hg Tryd.func69 (by kernel_rfl) (by kernel_rfl) (S := 0) (fun w _ => loopsOK_nil _) (fun _ => rfl) (r_veilref04_Point_Add N)
theorem k_veilref04_Point_Add {w0 : World} (N : Nat)  (hg_veilref01_least : GlobOK Tryd.prog w0 gs_veilref01_least) (hg_veilref01_F_Neg : GlobOK Tryd.prog w0 gs_veilref01_F_Neg) (hg_veilref04_Point_Add : GlobOK Tryd.prog w0 gs_veilref04_Point_Add) : SoundAt Tryd.prog w0 69 (ct_veilref04_Point_Add N) :=
  s_veilref04_Point_Add N (k_veilref01_F_Sub N hg_veilref01_least hg_veilref01_F_Neg) (k_veilref01_F_Add N hg_veilref01_least) (k_veilref01_D) (k_veilref01_F_Mul N hg_veilref01_least) (k_veilref01_F_Invert N hg_veilref01_least) hg_veilref04_Point_Add

def ct_veilref04_XOf (N : Nat) : Ct := fct (.one (.ints .i64 10)) (.tup (.cons (.ints .i64 10) (.one .bool))) fun x => veilref04_XOf N x
def cs_veilref04_XOf (N : Nat) : List (FuncId × Ct) := [(36, (ct_veilref01_SqrtRatio N)), (37, (ct_veilref01_F_Sub N)), (38, (ct_veilref01_F_Add N)), (44, ct_veilref01_D), (46, (ct_veilref01_F_Mul N))]
def gs_veilref04_XOf : List Gv := [⟨0, 38, (.ints .i64 10 [1, 0, 0, 0, 0, 0, 0, 0, 0, 0])⟩]
noncomputable def ls_veilref04_XOf (N : Nat) : List (Nat × Lf) := []
theorem r_veilref04_XOf (N : Nat) : ∀ x, run Tryd.prog (fun g => lkG g (cs_veilref04_XOf N)) (glAt gs_veilref04_XOf 0) (gs_veilref04_XOf.length + 0) (memAt gs_veilref04_XOf 0 ++ (unc gs_veilref04_XOf.length (Ag.mk ((.one (.ints .i64 10))) x)).2) (fun i => lkL i (ls_veilref04_XOf N)) 100 Tryd.f79 (unc gs_veilref04_XOf.length (Ag.mk ((.one (.ints .i64 10))) x)).1 none (Pt.get ((.tup (.cons (.ints .i64 10) (.one .bool))))) = veilref04_XOf N x := by
  intro x; kernel_rfl
theorem s_veilref04_XOf {w0 : World} (N : Nat)  (h36 : SoundAt Tryd.prog w0 36 (ct_veilref01_SqrtRatio N)) (h37 : SoundAt Tryd.prog w0 37 (ct_veilref01_F_Sub N)) (h38 : SoundAt Tryd.prog w0 38 (ct_veilref01_F_Add N)) (h44 : SoundAt Tryd.prog w0 44 ct_veilref01_D) (h46 : SoundAt Tryd.prog w0 46 (ct_veilref01_F_Mul N)) (hg : GlobOK Tryd.prog w0 gs_veilref04_XOf) : SoundAt Tryd.prog w0 79 (ct_veilref04_XOf N) := by
  have hcs : ∀ x ∈ cs_veilref04_XOf N, SoundAt Tryd.prog w0 x.1 x.2 := by
    intro x hx
    simp only [cs_veilref04_XOf, List.mem_cons, List.not_mem_nil, or_false] at hx
    rcases hx with rfl | rfl | rfl | rfl | rfl
    · exact h36
    · exact h37
    · exact h38
    · exact h44
    · exact h46
  exact fn_printed hcs hg Tryd.func79 (by kernel_rfl) (by kernel_rfl) (S := 0) (fun w _ => loopsOK_nil _) (fun _ => rfl) (r_veilref04_XOf N)
theorem k_veilref04_XOf {w0 : World} (N : Nat)  (hg_veilref01_least : GlobOK Tryd.prog w0 gs_veilref01_least) (hg_veilref01_F_Neg : GlobOK Tryd.prog w0 gs_veilref01_F_Neg) (hg_veilref01_root : GlobOK Tryd.prog w0 gs_veilref01_root) (hg_veilref01_SqrtRatio : GlobOK Tryd.prog w0 gs_veilref01_SqrtRatio) (hg_veilref04_XOf : GlobOK Tryd.prog w0 gs_veilref04_XOf) : SoundAt Tryd.prog w0 79 (ct_veilref04_XOf N) :=
  s_veilref04_XOf N (k_veilref01_SqrtRatio N hg_veilref01_least hg_veilref01_F_Neg hg_veilref01_root hg_veilref01_SqrtRatio) (k_veilref01_F_Sub N hg_veilref01_least hg_veilref01_F_Neg) (k_veilref01_F_Add N hg_veilref01_least) (k_veilref01_D) (k_veilref01_F_Mul N hg_veilref01_least) hg_veilref04_XOf

def ct_veilref04_Base (N : Nat) : Ct := fct .nil (.agg (.cons (.ints .i64 10) (.one (.ints .i64 10)))) fun x => veilref04_Base N
def cs_veilref04_Base (N : Nat) : List (FuncId × Ct) := [(46, (ct_veilref01_F_Mul N)), (50, (ct_veilref01_F_Invert N)), (78, (ct_veilref01_Small N)), (79, (ct_veilref04_XOf N))]
def gs_veilref04_Base : List Gv := []
noncomputable def ls_veilref04_Base (N : Nat) : List (Nat × Lf) := []
theorem r_veilref04_Base (N : Nat) : ∀ x, run Tryd.prog (fun g => lkG g (cs_veilref04_Base N)) (glAt gs_veilref04_Base 0) (gs_veilref04_Base.length + 0) (memAt gs_veilref04_Base 0 ++ (unc gs_veilref04_Base.length (Ag.mk (.nil) x)).2) (fun i => lkL i (ls_veilref04_Base N)) 100 Tryd.f58 (unc gs_veilref04_Base.length (Ag.mk (.nil) x)).1 none (Pt.get ((.agg (.cons (.ints .i64 10) (.one (.ints .i64 10)))))) = veilref04_Base N := by
  intro x; kernel_rfl
theorem s_veilref04_Base {w0 : World} (N : Nat)  (h46 : SoundAt Tryd.prog w0 46 (ct_veilref01_F_Mul N)) (h50 : SoundAt Tryd.prog w0 50 (ct_veilref01_F_Invert N)) (h78 : SoundAt Tryd.prog w0 78 (ct_veilref01_Small N)) (h79 : SoundAt Tryd.prog w0 79 (ct_veilref04_XOf N)) : SoundAt Tryd.prog w0 58 (ct_veilref04_Base N) := by
  have hcs : ∀ x ∈ cs_veilref04_Base N, SoundAt Tryd.prog w0 x.1 x.2 := by
    intro x hx
    simp only [cs_veilref04_Base, List.mem_cons, List.not_mem_nil, or_false] at hx
    rcases hx with rfl | rfl | rfl | rfl
    · exact h46
    · exact h50
    · exact h78
    · exact h79
  exact fn_printed hcs (glob_nil _ _) Tryd.func58 (by kernel_rfl) (by kernel_rfl) (S := 0) (fun w _ => loopsOK_nil _) (fun _ => rfl) (r_veilref04_Base N)
theorem k_veilref04_Base {w0 : World} (N : Nat)  (hg_veilref01_least : GlobOK Tryd.prog w0 gs_veilref01_least) (hg_veilref01_F_Neg : GlobOK Tryd.prog w0 gs_veilref01_F_Neg) (hg_veilref01_root : GlobOK Tryd.prog w0 gs_veilref01_root) (hg_veilref01_SqrtRatio : GlobOK Tryd.prog w0 gs_veilref01_SqrtRatio) (hg_veilref04_XOf : GlobOK Tryd.prog w0 gs_veilref04_XOf) : SoundAt Tryd.prog w0 58 (ct_veilref04_Base N) :=
  s_veilref04_Base N (k_veilref01_F_Mul N hg_veilref01_least) (k_veilref01_F_Invert N hg_veilref01_least) (k_veilref01_Small N hg_veilref01_least) (k_veilref04_XOf N hg_veilref01_least hg_veilref01_F_Neg hg_veilref01_root hg_veilref01_SqrtRatio hg_veilref04_XOf)

def ct_group_pick : Ct := tct (.one .bool) (.int .i64) fun x => group_pick x
def cs_group_pick : List (FuncId × Ct) := []
def gs_group_pick : List Gv := []
noncomputable def ls_group_pick : List (Nat × Lf) := []
theorem r_group_pick : ∀ x, run Tryd.prog (fun g => lkG g (cs_group_pick)) (glAt gs_group_pick 0) (gs_group_pick.length + 0) (memAt gs_group_pick 0 ++ (unc gs_group_pick.length (Ag.mk ((.one .bool)) x)).2) (fun i => lkL i (ls_group_pick)) 100 Tryd.f25 (unc gs_group_pick.length (Ag.mk ((.one .bool)) x)).1 none (Pt.get ((.int .i64))) = group_pick_o x := by
  intro x; kernel_rfl
theorem s_group_pick {w0 : World}  : SoundAt Tryd.prog w0 25 ct_group_pick := by
  have hcs : ∀ x ∈ cs_group_pick, SoundAt Tryd.prog w0 x.1 x.2 := by
    intro x hx
    simp [cs_group_pick] at hx
  exact sound_tct (fn_printed hcs (glob_nil _ _) Tryd.func25 (by kernel_rfl) (by kernel_rfl) (S := 0) (fun w _ => loopsOK_nil _) (fun _ => rfl) (r_group_pick)) fun _ _ => group_pick_tot _
theorem k_group_pick {w0 : World}  : SoundAt Tryd.prog w0 25 ct_group_pick :=
  s_group_pick

def ct_group_Base : Ct := tct .nil (.agg (.one (.agg (.one (.agg (.cons (.ints .u64 5) (.cons (.ints .u64 5) (.cons (.ints .u64 5) (.one (.ints .u64 5)))))))))) fun x => group_Base
def cs_group_Base : List (FuncId × Ct) := [(57, ct_curve_Base)]
def gs_group_Base : List Gv := []
noncomputable def ls_group_Base : List (Nat × Lf) := []
theorem r_group_Base : ∀ x, run Tryd.prog (fun g => lkG g (cs_group_Base)) (glAt gs_group_Base 0) (gs_group_Base.length + 0) (memAt gs_group_Base 0 ++ (unc gs_group_Base.length (Ag.mk (.nil) x)).2) (fun i => lkL i (ls_group_Base)) 100 Tryd.f14 (unc gs_group_Base.length (Ag.mk (.nil) x)).1 none (Pt.get ((.agg (.one (.agg (.one (.agg (.cons (.ints .u64 5) (.cons (.ints .u64 5) (.cons (.ints .u64 5) (.one (.ints .u64 5)))))))))))) = some (group_Base) := by
  intro x; kernel_rfl
theorem s_group_Base {w0 : World}  (h57 : SoundAt Tryd.prog w0 57 ct_curve_Base) : SoundAt Tryd.prog w0 14 ct_group_Base := by
  have hcs : ∀ x ∈ cs_group_Base, SoundAt Tryd.prog w0 x.1 x.2 := by
    intro x hx
    simp only [cs_group_Base, List.mem_cons, List.not_mem_nil, or_false] at hx
    rcases hx with rfl
    · exact h57
  exact sound_tct (fn_printed hcs (glob_nil _ _) Tryd.func14 (by kernel_rfl) (by kernel_rfl) (S := 0) (fun w _ => loopsOK_nil _) (fun _ => rfl) (r_group_Base)) fun _ _ => rfl
theorem k_group_Base {w0 : World}  (hg_curve_Base : GlobOK Tryd.prog w0 gs_curve_Base) : SoundAt Tryd.prog w0 14 ct_group_Base :=
  s_group_Base (k_curve_Base hg_curve_Base)

def ct_group_Point_Add : Ct := fct (.cons (.agg (.one (.agg (.one (.agg (.cons (.ints .u64 5) (.cons (.ints .u64 5) (.cons (.ints .u64 5) (.one (.ints .u64 5)))))))))) (.one (.agg (.one (.agg (.one (.agg (.cons (.ints .u64 5) (.cons (.ints .u64 5) (.cons (.ints .u64 5) (.one (.ints .u64 5)))))))))))) (.agg (.one (.agg (.one (.agg (.cons (.ints .u64 5) (.cons (.ints .u64 5) (.cons (.ints .u64 5) (.one (.ints .u64 5)))))))))) fun x => group_Point_Add x.1 x.2
def cs_group_Point_Add : List (FuncId × Ct) := [(61, ct_curve_Point_Add)]
def gs_group_Point_Add : List Gv := []
noncomputable def ls_group_Point_Add : List (Nat × Lf) := []
theorem r_group_Point_Add : ∀ x, run Tryd.prog (fun g => lkG g (cs_group_Point_Add)) (glAt gs_group_Point_Add 0) (gs_group_Point_Add.length + 0) (memAt gs_group_Point_Add 0 ++ (unc gs_group_Point_Add.length (Ag.mk ((.cons (.agg (.one (.agg (.one (.agg (.cons (.ints .u64 5) (.cons (.ints .u64 5) (.cons (.ints .u64 5) (.one (.ints .u64 5)))))))))) (.one (.agg (.one (.agg (.one (.agg (.cons (.ints .u64 5) (.cons (.ints .u64 5) (.cons (.ints .u64 5) (.one (.ints .u64 5))))))))))))) x)).2) (fun i => lkL i (ls_group_Point_Add)) 100 Tryd.f17 (unc gs_group_Point_Add.length (Ag.mk ((.cons (.agg (.one (.agg (.one (.agg (.cons (.ints .u64 5) (.cons (.ints .u64 5) (.cons (.ints .u64 5) (.one (.ints .u64 5)))))))))) (.one (.agg (.one (.agg (.one (.agg (.cons (.ints .u64 5) (.cons (.ints .u64 5) (.cons (.ints .u64 5) (.one (.ints .u64 5))))))))))))) x)).1 none (Pt.get ((.agg (.one (.agg (.one (.agg (.cons (.ints .u64 5) (.cons (.ints .u64 5) (.cons (.ints .u64 5) (.one (.ints .u64 5)))))))))))) = group_Point_Add x.1 x.2 := by
  intro x; kernel_rfl
theorem s_group_Point_Add {w0 : World}  (h61 : SoundAt Tryd.prog w0 61 ct_curve_Point_Add) : SoundAt Tryd.prog w0 17 ct_group_Point_Add := by
  have hcs : ∀ x ∈ cs_group_Point_Add, SoundAt Tryd.prog w0 x.1 x.2 := by
    intro x hx
    simp only [cs_group_Point_Add, List.mem_cons, List.not_mem_nil, or_false] at hx
    rcases hx with rfl
    · exact h61
  exact fn_printed hcs (glob_nil _ _) Tryd.func17 (by kernel_rfl) (by kernel_rfl) (S := 0) (fun w _ => loopsOK_nil _) (fun _ => rfl) (r_group_Point_Add)
theorem k_group_Point_Add {w0 : World}  (hg_curve_place_whole : GlobOK Tryd.prog w0 gs_curve_place_whole) (hg_curve_Point_Add : GlobOK Tryd.prog w0 gs_curve_Point_Add) : SoundAt Tryd.prog w0 17 ct_group_Point_Add :=
  s_group_Point_Add (k_curve_Point_Add hg_curve_place_whole hg_curve_Point_Add)

def ct_group_Point_Encode (N : Nat) : Ct := fct (.one (.agg (.one (.agg (.one (.agg (.cons (.ints .u64 5) (.cons (.ints .u64 5) (.cons (.ints .u64 5) (.one (.ints .u64 5))))))))))) (.ints .u8 32) fun x => group_Point_Encode N x
def cs_group_Point_Encode (N : Nat) : List (FuncId × Ct) := [(18, (ct_curve_Point_Affine N)), (19, ct_field_Elem_One), (20, ct_field_Elem_Mul), (21, ct_field_Elem_Add), (22, ct_field_Elem_Sub), (23, (ct_field_SqrtRatio N)), (24, ct_field_Elem_Square), (25, ct_group_pick), (26, ct_field_Elem_Negative), (27, ct_field_Const), (28, ct_field_Select), (29, ct_field_Elem_Neg), (30, ct_field_Elem_Abs), (31, ct_field_Elem_Encode)]
def gs_group_Point_Encode : List Gv := []
noncomputable def ls_group_Point_Encode (N : Nat) : List (Nat × Lf) := []
theorem r_group_Point_Encode (N : Nat) : ∀ x, run Tryd.prog (fun g => lkG g (cs_group_Point_Encode N)) (glAt gs_group_Point_Encode 0) (gs_group_Point_Encode.length + 0) (memAt gs_group_Point_Encode 0 ++ (unc gs_group_Point_Encode.length (Ag.mk ((.one (.agg (.one (.agg (.one (.agg (.cons (.ints .u64 5) (.cons (.ints .u64 5) (.cons (.ints .u64 5) (.one (.ints .u64 5)))))))))))) x)).2) (fun i => lkL i (ls_group_Point_Encode N)) 100 Tryd.f6 (unc gs_group_Point_Encode.length (Ag.mk ((.one (.agg (.one (.agg (.one (.agg (.cons (.ints .u64 5) (.cons (.ints .u64 5) (.cons (.ints .u64 5) (.one (.ints .u64 5)))))))))))) x)).1 none (Pt.get ((.ints .u8 32))) = group_Point_Encode N x := by
  intro x; kernel_rfl
theorem s_group_Point_Encode {w0 : World} (N : Nat)  (h18 : SoundAt Tryd.prog w0 18 (ct_curve_Point_Affine N)) (h19 : SoundAt Tryd.prog w0 19 ct_field_Elem_One) (h20 : SoundAt Tryd.prog w0 20 ct_field_Elem_Mul) (h21 : SoundAt Tryd.prog w0 21 ct_field_Elem_Add) (h22 : SoundAt Tryd.prog w0 22 ct_field_Elem_Sub) (h23 : SoundAt Tryd.prog w0 23 (ct_field_SqrtRatio N)) (h24 : SoundAt Tryd.prog w0 24 ct_field_Elem_Square) (h25 : SoundAt Tryd.prog w0 25 ct_group_pick) (h26 : SoundAt Tryd.prog w0 26 ct_field_Elem_Negative) (h27 : SoundAt Tryd.prog w0 27 ct_field_Const) (h28 : SoundAt Tryd.prog w0 28 ct_field_Select) (h29 : SoundAt Tryd.prog w0 29 ct_field_Elem_Neg) (h30 : SoundAt Tryd.prog w0 30 ct_field_Elem_Abs) (h31 : SoundAt Tryd.prog w0 31 ct_field_Elem_Encode) : SoundAt Tryd.prog w0 6 (ct_group_Point_Encode N) := by
  have hcs : ∀ x ∈ cs_group_Point_Encode N, SoundAt Tryd.prog w0 x.1 x.2 := by
    intro x hx
    simp only [cs_group_Point_Encode, List.mem_cons, List.not_mem_nil, or_false] at hx
    rcases hx with rfl | rfl | rfl | rfl | rfl | rfl | rfl | rfl | rfl | rfl | rfl | rfl | rfl | rfl
    · exact h18
    · exact h19
    · exact h20
    · exact h21
    · exact h22
    · exact h23
    · exact h24
    · exact h25
    · exact h26
    · exact h27
    · exact h28
    · exact h29
    · exact h30
    · exact h31
  exact fn_printed hcs (glob_nil _ _) Tryd.func6 (by kernel_rfl) (by kernel_rfl) (S := 0) (fun w _ => loopsOK_nil _) (fun _ => rfl) (r_group_Point_Encode N)
theorem k_group_Point_Encode {w0 : World} (N : Nat)  (hg_curve_place_whole : GlobOK Tryd.prog w0 gs_curve_place_whole) (hg_field_SqrtRatio : GlobOK Tryd.prog w0 gs_field_SqrtRatio) (hg_field_Const : GlobOK Tryd.prog w0 gs_field_Const) : SoundAt Tryd.prog w0 6 (ct_group_Point_Encode N) :=
  s_group_Point_Encode N (k_curve_Point_Affine N hg_curve_place_whole) (k_field_Elem_One) (k_field_Elem_Mul) (k_field_Elem_Add) (k_field_Elem_Sub) (k_field_SqrtRatio N hg_field_SqrtRatio) (k_field_Elem_Square) (k_group_pick) (k_field_Elem_Negative) (k_field_Const hg_field_Const) (k_field_Select) (k_field_Elem_Neg) (k_field_Elem_Abs) (k_field_Elem_Encode)

def ct_group_Point_Decode (N : Nat) : Ct := fct (.cons (.agg (.one (.agg (.one (.agg (.cons (.ints .u64 5) (.cons (.ints .u64 5) (.cons (.ints .u64 5) (.one (.ints .u64 5)))))))))) (.one (.ints .u8 32))) (.tup (.cons (.agg (.one (.agg (.one (.agg (.cons (.ints .u64 5) (.cons (.ints .u64 5) (.cons (.ints .u64 5) (.one (.ints .u64 5)))))))))) (.one (.int .i64)))) fun x => group_Point_Decode N x.1 x.2
def cs_group_Point_Decode (N : Nat) : List (FuncId × Ct) := [(19, ct_field_Elem_One), (20, ct_field_Elem_Mul), (21, ct_field_Elem_Add), (22, ct_field_Elem_Sub), (23, (ct_field_SqrtRatio N)), (24, ct_field_Elem_Square), (26, ct_field_Elem_Negative), (27, ct_field_Const), (29, ct_field_Elem_Neg), (30, ct_field_Elem_Abs), (43, ct_curve_FromAffine), (52, ct_field_Decode), (53, ct_field_Elem_IsZero)]
def gs_group_Point_Decode : List Gv := []
noncomputable def ls_group_Point_Decode (N : Nat) : List (Nat × Lf) := []
theorem r_group_Point_Decode (N : Nat) : ∀ x, run Tryd.prog (fun g => lkG g (cs_group_Point_Decode N)) (glAt gs_group_Point_Decode 0) (gs_group_Point_Decode.length + 0) (memAt gs_group_Point_Decode 0 ++ (unc gs_group_Point_Decode.length (Ag.mk ((.cons (.agg (.one (.agg (.one (.agg (.cons (.ints .u64 5) (.cons (.ints .u64 5) (.cons (.ints .u64 5) (.one (.ints .u64 5)))))))))) (.one (.ints .u8 32)))) x)).2) (fun i => lkL i (ls_group_Point_Decode N)) 100 Tryd.f12 (unc gs_group_Point_Decode.length (Ag.mk ((.cons (.agg (.one (.agg (.one (.agg (.cons (.ints .u64 5) (.cons (.ints .u64 5) (.cons (.ints .u64 5) (.one (.ints .u64 5)))))))))) (.one (.ints .u8 32)))) x)).1 none (Pt.get ((.tup (.cons (.agg (.one (.agg (.one (.agg (.cons (.ints .u64 5) (.cons (.ints .u64 5) (.cons (.ints .u64 5) (.one (.ints .u64 5)))))))))) (.one (.int .i64)))))) = group_Point_Decode N x.1 x.2 := by
  intro x; kernel_rfl
theorem s_group_Point_Decode {w0 : World} (N : Nat)  (h19 : SoundAt Tryd.prog w0 19 ct_field_Elem_One) (h20 : SoundAt Tryd.prog w0 20 ct_field_Elem_Mul) (h21 : SoundAt Tryd.prog w0 21 ct_field_Elem_Add) (h22 : SoundAt Tryd.prog w0 22 ct_field_Elem_Sub) (h23 : SoundAt Tryd.prog w0 23 (ct_field_SqrtRatio N)) (h24 : SoundAt Tryd.prog w0 24 ct_field_Elem_Square) (h26 : SoundAt Tryd.prog w0 26 ct_field_Elem_Negative) (h27 : SoundAt Tryd.prog w0 27 ct_field_Const) (h29 : SoundAt Tryd.prog w0 29 ct_field_Elem_Neg) (h30 : SoundAt Tryd.prog w0 30 ct_field_Elem_Abs) (h43 : SoundAt Tryd.prog w0 43 ct_curve_FromAffine) (h52 : SoundAt Tryd.prog w0 52 ct_field_Decode) (h53 : SoundAt Tryd.prog w0 53 ct_field_Elem_IsZero) : SoundAt Tryd.prog w0 12 (ct_group_Point_Decode N) := by
  have hcs : ∀ x ∈ cs_group_Point_Decode N, SoundAt Tryd.prog w0 x.1 x.2 := by
    intro x hx
    simp only [cs_group_Point_Decode, List.mem_cons, List.not_mem_nil, or_false] at hx
    rcases hx with rfl | rfl | rfl | rfl | rfl | rfl | rfl | rfl | rfl | rfl | rfl | rfl | rfl
    · exact h19
    · exact h20
    · exact h21
    · exact h22
    · exact h23
    · exact h24
    · exact h26
    · exact h27
    · exact h29
    · exact h30
    · exact h43
    · exact h52
    · exact h53
  exact fn_printed hcs (glob_nil _ _) Tryd.func12 (by kernel_rfl) (by kernel_rfl) (S := 0) (fun w _ => loopsOK_nil _) (fun _ => rfl) (r_group_Point_Decode N)
theorem k_group_Point_Decode {w0 : World} (N : Nat)  (hg_field_SqrtRatio : GlobOK Tryd.prog w0 gs_field_SqrtRatio) (hg_field_Const : GlobOK Tryd.prog w0 gs_field_Const) (hg_curve_at : GlobOK Tryd.prog w0 gs_curve_at) (hg_curve_FromAffine : GlobOK Tryd.prog w0 gs_curve_FromAffine) : SoundAt Tryd.prog w0 12 (ct_group_Point_Decode N) :=
  s_group_Point_Decode N (k_field_Elem_One) (k_field_Elem_Mul) (k_field_Elem_Add) (k_field_Elem_Sub) (k_field_SqrtRatio N hg_field_SqrtRatio) (k_field_Elem_Square) (k_field_Elem_Negative) (k_field_Const hg_field_Const) (k_field_Elem_Neg) (k_field_Elem_Abs) (k_curve_FromAffine hg_field_Const hg_curve_at hg_curve_FromAffine) (k_field_Decode) (k_field_Elem_IsZero)

def ct_group_MapHalf (N : Nat) : Ct := fct (.one (.ints .u64 5)) (.agg (.one (.agg (.one (.agg (.cons (.ints .u64 5) (.cons (.ints .u64 5) (.cons (.ints .u64 5) (.one (.ints .u64 5)))))))))) fun x => group_MapHalf N x
def cs_group_MapHalf (N : Nat) : List (FuncId × Ct) := [(19, ct_field_Elem_One), (20, ct_field_Elem_Mul), (21, ct_field_Elem_Add), (22, ct_field_Elem_Sub), (23, (ct_field_SqrtRatio N)), (24, ct_field_Elem_Square), (25, ct_group_pick), (27, ct_field_Const), (28, ct_field_Select), (29, ct_field_Elem_Neg), (30, ct_field_Elem_Abs), (42, (ct_field_Elem_Invert N)), (43, ct_curve_FromAffine)]
def gs_group_MapHalf : List Gv := []
noncomputable def ls_group_MapHalf (N : Nat) : List (Nat × Lf) := []
theorem r_group_MapHalf (N : Nat) : ∀ x, run Tryd.prog (fun g => lkG g (cs_group_MapHalf N)) (glAt gs_group_MapHalf 0) (gs_group_MapHalf.length + 0) (memAt gs_group_MapHalf 0 ++ (unc gs_group_MapHalf.length (Ag.mk ((.one (.ints .u64 5))) x)).2) (fun i => lkL i (ls_group_MapHalf N)) 100 Tryd.f9 (unc gs_group_MapHalf.length (Ag.mk ((.one (.ints .u64 5))) x)).1 none (Pt.get ((.agg (.one (.agg (.one (.agg (.cons (.ints .u64 5) (.cons (.ints .u64 5) (.cons (.ints .u64 5) (.one (.ints .u64 5)))))))))))) = group_MapHalf N x := by
  intro x; kernel_rfl
theorem s_group_MapHalf {w0 : World} (N : Nat)  (h19 : SoundAt Tryd.prog w0 19 ct_field_Elem_One) (h20 : SoundAt Tryd.prog w0 20 ct_field_Elem_Mul) (h21 : SoundAt Tryd.prog w0 21 ct_field_Elem_Add) (h22 : SoundAt Tryd.prog w0 22 ct_field_Elem_Sub) (h23 : SoundAt Tryd.prog w0 23 (ct_field_SqrtRatio N)) (h24 : SoundAt Tryd.prog w0 24 ct_field_Elem_Square) (h25 : SoundAt Tryd.prog w0 25 ct_group_pick) (h27 : SoundAt Tryd.prog w0 27 ct_field_Const) (h28 : SoundAt Tryd.prog w0 28 ct_field_Select) (h29 : SoundAt Tryd.prog w0 29 ct_field_Elem_Neg) (h30 : SoundAt Tryd.prog w0 30 ct_field_Elem_Abs) (h42 : SoundAt Tryd.prog w0 42 (ct_field_Elem_Invert N)) (h43 : SoundAt Tryd.prog w0 43 ct_curve_FromAffine) : SoundAt Tryd.prog w0 9 (ct_group_MapHalf N) := by
  have hcs : ∀ x ∈ cs_group_MapHalf N, SoundAt Tryd.prog w0 x.1 x.2 := by
    intro x hx
    simp only [cs_group_MapHalf, List.mem_cons, List.not_mem_nil, or_false] at hx
    rcases hx with rfl | rfl | rfl | rfl | rfl | rfl | rfl | rfl | rfl | rfl | rfl | rfl | rfl
    · exact h19
    · exact h20
    · exact h21
    · exact h22
    · exact h23
    · exact h24
    · exact h25
    · exact h27
    · exact h28
    · exact h29
    · exact h30
    · exact h42
    · exact h43
  exact fn_printed hcs (glob_nil _ _) Tryd.func9 (by kernel_rfl) (by kernel_rfl) (S := 0) (fun w _ => loopsOK_nil _) (fun _ => rfl) (r_group_MapHalf N)
theorem k_group_MapHalf {w0 : World} (N : Nat)  (hg_field_SqrtRatio : GlobOK Tryd.prog w0 gs_field_SqrtRatio) (hg_field_Const : GlobOK Tryd.prog w0 gs_field_Const) (hg_curve_at : GlobOK Tryd.prog w0 gs_curve_at) (hg_curve_FromAffine : GlobOK Tryd.prog w0 gs_curve_FromAffine) : SoundAt Tryd.prog w0 9 (ct_group_MapHalf N) :=
  s_group_MapHalf N (k_field_Elem_One) (k_field_Elem_Mul) (k_field_Elem_Add) (k_field_Elem_Sub) (k_field_SqrtRatio N hg_field_SqrtRatio) (k_field_Elem_Square) (k_group_pick) (k_field_Const hg_field_Const) (k_field_Select) (k_field_Elem_Neg) (k_field_Elem_Abs) (k_field_Elem_Invert N) (k_curve_FromAffine hg_field_Const hg_curve_at hg_curve_FromAffine)

def ct_group_Map (N : Nat) : Ct := fct (.one (.ints .u8 64)) (.agg (.one (.agg (.one (.agg (.cons (.ints .u64 5) (.cons (.ints .u64 5) (.cons (.ints .u64 5) (.one (.ints .u64 5)))))))))) fun x => group_Map N x
def cs_group_Map (N : Nat) : List (FuncId × Ct) := [(9, (ct_group_MapHalf N)), (16, ct_field_Reduce), (17, ct_group_Point_Add)]
def gs_group_Map : List Gv := []
noncomputable def ls_group_Map (N : Nat) : List (Nat × Lf) := []
theorem r_group_Map (N : Nat) : ∀ x, run Tryd.prog (fun g => lkG g (cs_group_Map N)) (glAt gs_group_Map 0) (gs_group_Map.length + 0) (memAt gs_group_Map 0 ++ (unc gs_group_Map.length (Ag.mk ((.one (.ints .u8 64))) x)).2) (fun i => lkL i (ls_group_Map N)) 100 Tryd.f5 (unc gs_group_Map.length (Ag.mk ((.one (.ints .u8 64))) x)).1 none (Pt.get ((.agg (.one (.agg (.one (.agg (.cons (.ints .u64 5) (.cons (.ints .u64 5) (.cons (.ints .u64 5) (.one (.ints .u64 5)))))))))))) = group_Map N x := by
  intro x; kernel_rfl
theorem s_group_Map {w0 : World} (N : Nat)  (h9 : SoundAt Tryd.prog w0 9 (ct_group_MapHalf N)) (h16 : SoundAt Tryd.prog w0 16 ct_field_Reduce) (h17 : SoundAt Tryd.prog w0 17 ct_group_Point_Add) : SoundAt Tryd.prog w0 5 (ct_group_Map N) := by
  have hcs : ∀ x ∈ cs_group_Map N, SoundAt Tryd.prog w0 x.1 x.2 := by
    intro x hx
    simp only [cs_group_Map, List.mem_cons, List.not_mem_nil, or_false] at hx
    rcases hx with rfl | rfl | rfl
    · exact h9
    · exact h16
    · exact h17
  exact fn_printed hcs (glob_nil _ _) Tryd.func5 (by kernel_rfl) (by kernel_rfl) (S := 0) (fun w _ => loopsOK_nil _) (fun _ => rfl) (r_group_Map N)
theorem k_group_Map {w0 : World} (N : Nat)  (hg_field_SqrtRatio : GlobOK Tryd.prog w0 gs_field_SqrtRatio) (hg_field_Const : GlobOK Tryd.prog w0 gs_field_Const) (hg_curve_at : GlobOK Tryd.prog w0 gs_curve_at) (hg_curve_FromAffine : GlobOK Tryd.prog w0 gs_curve_FromAffine) (hg_curve_place_whole : GlobOK Tryd.prog w0 gs_curve_place_whole) (hg_curve_Point_Add : GlobOK Tryd.prog w0 gs_curve_Point_Add) : SoundAt Tryd.prog w0 5 (ct_group_Map N) :=
  s_group_Map N (k_group_MapHalf N hg_field_SqrtRatio hg_field_Const hg_curve_at hg_curve_FromAffine) (k_field_Reduce) (k_group_Point_Add hg_curve_place_whole hg_curve_Point_Add)

def ct_veilref05_Neutral : Ct := tct .nil (.agg (.one (.agg (.cons (.ints .i64 10) (.one (.ints .i64 10)))))) fun x => veilref05_Neutral
def cs_veilref05_Neutral : List (FuncId × Ct) := [(70, ct_veilref04_Neutral)]
def gs_veilref05_Neutral : List Gv := []
noncomputable def ls_veilref05_Neutral : List (Nat × Lf) := []
theorem r_veilref05_Neutral : ∀ x, run Tryd.prog (fun g => lkG g (cs_veilref05_Neutral)) (glAt gs_veilref05_Neutral 0) (gs_veilref05_Neutral.length + 0) (memAt gs_veilref05_Neutral 0 ++ (unc gs_veilref05_Neutral.length (Ag.mk (.nil) x)).2) (fun i => lkL i (ls_veilref05_Neutral)) 100 Tryd.f56 (unc gs_veilref05_Neutral.length (Ag.mk (.nil) x)).1 none (Pt.get ((.agg (.one (.agg (.cons (.ints .i64 10) (.one (.ints .i64 10)))))))) = some (veilref05_Neutral) := by
  intro x; kernel_rfl
theorem s_veilref05_Neutral {w0 : World}  (h70 : SoundAt Tryd.prog w0 70 ct_veilref04_Neutral) : SoundAt Tryd.prog w0 56 ct_veilref05_Neutral := by
  have hcs : ∀ x ∈ cs_veilref05_Neutral, SoundAt Tryd.prog w0 x.1 x.2 := by
    intro x hx
    simp only [cs_veilref05_Neutral, List.mem_cons, List.not_mem_nil, or_false] at hx
    rcases hx with rfl
    · exact h70
  exact sound_tct (fn_printed hcs (glob_nil _ _) Tryd.func56 (by kernel_rfl) (by kernel_rfl) (S := 0) (fun w _ => loopsOK_nil _) (fun _ => rfl) (r_veilref05_Neutral)) fun _ _ => rfl
theorem k_veilref05_Neutral {w0 : World}  (hg_veilref04_Neutral : GlobOK Tryd.prog w0 gs_veilref04_Neutral) : SoundAt Tryd.prog w0 56 ct_veilref05_Neutral :=
  s_veilref05_Neutral (k_veilref04_Neutral hg_veilref04_Neutral)

def ct_veilref05_Point_at : Ct := tct (.one (.agg (.one (.agg (.cons (.ints .i64 10) (.one (.ints .i64 10))))))) (.agg (.cons (.ints .i64 10) (.one (.ints .i64 10)))) fun x => veilref05_Point_at x
def cs_veilref05_Point_at : List (FuncId × Ct) := [(70, ct_veilref04_Neutral)]
def gs_veilref05_Point_at : List Gv := []
noncomputable def ls_veilref05_Point_at : List (Nat × Lf) := []
theorem r_veilref05_Point_at : ∀ x, run Tryd.prog (fun g => lkG g (cs_veilref05_Point_at)) (glAt gs_veilref05_Point_at 0) (gs_veilref05_Point_at.length + 0) (memAt gs_veilref05_Point_at 0 ++ (unc gs_veilref05_Point_at.length (Ag.mk ((.one (.agg (.one (.agg (.cons (.ints .i64 10) (.one (.ints .i64 10)))))))) x)).2) (fun i => lkL i (ls_veilref05_Point_at)) 100 Tryd.f35 (unc gs_veilref05_Point_at.length (Ag.mk ((.one (.agg (.one (.agg (.cons (.ints .i64 10) (.one (.ints .i64 10)))))))) x)).1 none (Pt.get ((.agg (.cons (.ints .i64 10) (.one (.ints .i64 10)))))) = veilref05_Point_at_o x := by
  intro x; kernel_rfl
theorem s_veilref05_Point_at {w0 : World}  (h70 : SoundAt Tryd.prog w0 70 ct_veilref04_Neutral) : SoundAt Tryd.prog w0 35 ct_veilref05_Point_at := by
  have hcs : ∀ x ∈ cs_veilref05_Point_at, SoundAt Tryd.prog w0 x.1 x.2 := by
    intro x hx
    simp only [cs_veilref05_Point_at, List.mem_cons, List.not_mem_nil, or_false] at hx
    rcases hx with rfl
    · exact h70
  exact sound_tct (fn_printed hcs (glob_nil _ _) Tryd.func35 (by kernel_rfl) (by kernel_rfl) (S := 0) (fun w _ => loopsOK_nil _) (fun _ => rfl) (r_veilref05_Point_at)) fun _ _ => veilref05_Point_at_tot _
theorem k_veilref05_Point_at {w0 : World}  (hg_veilref04_Neutral : GlobOK Tryd.prog w0 gs_veilref04_Neutral) : SoundAt Tryd.prog w0 35 ct_veilref05_Point_at :=
  s_veilref05_Point_at (k_veilref04_Neutral hg_veilref04_Neutral)

def ct_veilref05_coset (N : Nat) : Ct := fct (.one (.agg (.cons (.ints .i64 10) (.one (.ints .i64 10))))) (.agg (.cons (.agg (.cons (.ints .i64 10) (.one (.ints .i64 10)))) (.cons (.agg (.cons (.ints .i64 10) (.one (.ints .i64 10)))) (.cons (.agg (.cons (.ints .i64 10) (.one (.ints .i64 10)))) (.one (.agg (.cons (.ints .i64 10) (.one (.ints .i64 10))))))))) fun x => veilref05_coset N x
def cs_veilref05_coset (N : Nat) : List (FuncId × Ct) := [(45, ct_veilref01_I), (46, (ct_veilref01_F_Mul N)), (47, ct_veilref01_F_Neg)]
def gs_veilref05_coset : List Gv := []
noncomputable def ls_veilref05_coset (N : Nat) : List (Nat × Lf) := []
theorem r_veilref05_coset (N : Nat) : ∀ x, run Tryd.prog (fun g => lkG g (cs_veilref05_coset N)) (glAt gs_veilref05_coset 0) (gs_veilref05_coset.length + 0) (memAt gs_veilref05_coset 0 ++ (unc gs_veilref05_coset.length (Ag.mk ((.one (.agg (.cons (.ints .i64 10) (.one (.ints .i64 10)))))) x)).2) (fun i => lkL i (ls_veilref05_coset N)) 100 Tryd.f34 (unc gs_veilref05_coset.length (Ag.mk ((.one (.agg (.cons (.ints .i64 10) (.one (.ints .i64 10)))))) x)).1 none (Pt.get ((.agg (.cons (.agg (.cons (.ints .i64 10) (.one (.ints .i64 10)))) (.cons (.agg (.cons (.ints .i64 10) (.one (.ints .i64 10)))) (.cons (.agg (.cons (.ints .i64 10) (.one (.ints .i64 10)))) (.one (.agg (.cons (.ints .i64 10) (.one (.ints .i64 10))))))))))) = veilref05_coset N x := by
  intro x; kernel_rfl
theorem s_veilref05_coset {w0 : World} (N : Nat)  (h45 : SoundAt Tryd.prog w0 45 ct_veilref01_I) (h46 : SoundAt Tryd.prog w0 46 (ct_veilref01_F_Mul N)) (h47 : SoundAt Tryd.prog w0 47 ct_veilref01_F_Neg) : SoundAt Tryd.prog w0 34 (ct_veilref05_coset N) := by
  have hcs : ∀ x ∈ cs_veilref05_coset N, SoundAt Tryd.prog w0 x.1 x.2 := by
    intro x hx
    simp only [cs_veilref05_coset, List.mem_cons, List.not_mem_nil, or_false] at hx
    rcases hx with rfl | rfl | rfl
    · exact h45
    · exact h46
    · exact h47
  exact fn_printed hcs (glob_nil _ _) Tryd.func34 (by kernel_rfl) (by kernel_rfl) (S := 0) (fun w _ => loopsOK_nil _) (fun _ => rfl) (r_veilref05_coset N)
theorem k_veilref05_coset {w0 : World} (N : Nat)  (hg_veilref01_least : GlobOK Tryd.prog w0 gs_veilref01_least) (hg_veilref01_F_Neg : GlobOK Tryd.prog w0 gs_veilref01_F_Neg) : SoundAt Tryd.prog w0 34 (ct_veilref05_coset N) :=
  s_veilref05_coset N (k_veilref01_I) (k_veilref01_F_Mul N hg_veilref01_least) (k_veilref01_F_Neg hg_veilref01_F_Neg)

def ct_veilref05_Point_Same (N : Nat) : Ct := fct (.cons (.agg (.one (.agg (.cons (.ints .i64 10) (.one (.ints .i64 10)))))) (.one (.agg (.one (.agg (.cons (.ints .i64 10) (.one (.ints .i64 10)))))))) .bool fun x => veilref05_Point_Same N x.1 x.2
def cs_veilref05_Point_Same (N : Nat) : List (FuncId × Ct) := [(34, (ct_veilref05_coset N)), (35, ct_veilref05_Point_at)]
def gs_veilref05_Point_Same : List Gv := []
noncomputable def ls_veilref05_Point_Same (N : Nat) : List (Nat × Lf) := []
theorem r_veilref05_Point_Same (N : Nat) : ∀ x, run Tryd.prog (fun g => lkG g (cs_veilref05_Point_Same N)) (glAt gs_veilref05_Point_Same 0) (gs_veilref05_Point_Same.length + 0) (memAt gs_veilref05_Point_Same 0 ++ (unc gs_veilref05_Point_Same.length (Ag.mk ((.cons (.agg (.one (.agg (.cons (.ints .i64 10) (.one (.ints .i64 10)))))) (.one (.agg (.one (.agg (.cons (.ints .i64 10) (.one (.ints .i64 10))))))))) x)).2) (fun i => lkL i (ls_veilref05_Point_Same N)) 100 Tryd.f40 (unc gs_veilref05_Point_Same.length (Ag.mk ((.cons (.agg (.one (.agg (.cons (.ints .i64 10) (.one (.ints .i64 10)))))) (.one (.agg (.one (.agg (.cons (.ints .i64 10) (.one (.ints .i64 10))))))))) x)).1 none (Pt.get (.bool)) = veilref05_Point_Same N x.1 x.2 := by
  intro x; kernel_rfl
theorem s_veilref05_Point_Same {w0 : World} (N : Nat)  (h34 : SoundAt Tryd.prog w0 34 (ct_veilref05_coset N)) (h35 : SoundAt Tryd.prog w0 35 ct_veilref05_Point_at) : SoundAt Tryd.prog w0 40 (ct_veilref05_Point_Same N) := by
  have hcs : ∀ x ∈ cs_veilref05_Point_Same N, SoundAt Tryd.prog w0 x.1 x.2 := by
    intro x hx
    simp only [cs_veilref05_Point_Same, List.mem_cons, List.not_mem_nil, or_false] at hx
    rcases hx with rfl | rfl
    · exact h34
    · exact h35
  exact fn_printed hcs (glob_nil _ _) Tryd.func40 (by kernel_rfl) (by kernel_rfl) (S := 0) (fun w _ => loopsOK_nil _) (fun _ => rfl) (r_veilref05_Point_Same N)
theorem k_veilref05_Point_Same {w0 : World} (N : Nat)  (hg_veilref01_least : GlobOK Tryd.prog w0 gs_veilref01_least) (hg_veilref01_F_Neg : GlobOK Tryd.prog w0 gs_veilref01_F_Neg) (hg_veilref04_Neutral : GlobOK Tryd.prog w0 gs_veilref04_Neutral) : SoundAt Tryd.prog w0 40 (ct_veilref05_Point_Same N) :=
  s_veilref05_Point_Same N (k_veilref05_coset N hg_veilref01_least hg_veilref01_F_Neg) (k_veilref05_Point_at hg_veilref04_Neutral)

def ct_veilref05_stands (N : Nat) : Ct := fct (.one (.ints .i64 10)) (.tup (.cons (.agg (.cons (.ints .i64 10) (.one (.ints .i64 10)))) (.one .bool))) fun x => veilref05_stands N x
def cs_veilref05_stands (N : Nat) : List (FuncId × Ct) := [(36, (ct_veilref01_SqrtRatio N)), (37, (ct_veilref01_F_Sub N)), (38, (ct_veilref01_F_Add N)), (44, ct_veilref01_D), (46, (ct_veilref01_F_Mul N)), (47, ct_veilref01_F_Neg), (50, (ct_veilref01_F_Invert N)), (55, ct_veilref01_F_Negative), (70, ct_veilref04_Neutral)]
def gs_veilref05_stands : List Gv := [⟨0, 38, (.ints .i64 10 [1, 0, 0, 0, 0, 0, 0, 0, 0, 0])⟩, ⟨2, 38, (.ints .i64 10 [0, 0, 0, 0, 0, 0, 0, 0, 0, 0])⟩]
noncomputable def ls_veilref05_stands (N : Nat) : List (Nat × Lf) := []
theorem r_veilref05_stands (N : Nat) : ∀ x, run Tryd.prog (fun g => lkG g (cs_veilref05_stands N)) (glAt gs_veilref05_stands 0) (gs_veilref05_stands.length + 0) (memAt gs_veilref05_stands 0 ++ (unc gs_veilref05_stands.length (Ag.mk ((.one (.ints .i64 10))) x)).2) (fun i => lkL i (ls_veilref05_stands N)) 100 Tryd.f39 (unc gs_veilref05_stands.length (Ag.mk ((.one (.ints .i64 10))) x)).1 none (Pt.get ((.tup (.cons (.agg (.cons (.ints .i64 10) (.one (.ints .i64 10)))) (.one .bool))))) = veilref05_stands N x := by
  intro x; kernel_rfl
theorem s_veilref05_stands {w0 : World} (N : Nat)  (h36 : SoundAt Tryd.prog w0 36 (ct_veilref01_SqrtRatio N)) (h37 : SoundAt Tryd.prog w0 37 (ct_veilref01_F_Sub N)) (h38 : SoundAt Tryd.prog w0 38 (ct_veilref01_F_Add N)) (h44 : SoundAt Tryd.prog w0 44 ct_veilref01_D) (h46 : SoundAt Tryd.prog w0 46 (ct_veilref01_F_Mul N)) (h47 : SoundAt Tryd.prog w0 47 ct_veilref01_F_Neg) (h50 : SoundAt Tryd.prog w0 50 (ct_veilref01_F_Invert N)) (h55 : SoundAt Tryd.prog w0 55 ct_veilref01_F_Negative) (h70 : SoundAt Tryd.prog w0 70 ct_veilref04_Neutral) (hg : GlobOK Tryd.prog w0 gs_veilref05_stands) : SoundAt Tryd.prog w0 39 (ct_veilref05_stands N) := by
  have hcs : ∀ x ∈ cs_veilref05_stands N, SoundAt Tryd.prog w0 x.1 x.2 := by
    intro x hx
    simp only [cs_veilref05_stands, List.mem_cons, List.not_mem_nil, or_false] at hx
    rcases hx with rfl | rfl | rfl | rfl | rfl | rfl | rfl | rfl | rfl
    · exact h36
    · exact h37
    · exact h38
    · exact h44
    · exact h46
    · exact h47
    · exact h50
    · exact h55
    · exact h70
  exact fn_printed hcs hg Tryd.func39 (by kernel_rfl) (by kernel_rfl) (S := 0) (fun w _ => loopsOK_nil _) (fun _ => rfl) (r_veilref05_stands N)
theorem k_veilref05_stands {w0 : World} (N : Nat)  (hg_veilref01_least : GlobOK Tryd.prog w0 gs_veilref01_least) (hg_veilref01_F_Neg : GlobOK Tryd.prog w0 gs_veilref01_F_Neg) (hg_veilref01_root : GlobOK Tryd.prog w0 gs_veilref01_root) (hg_veilref01_SqrtRatio : GlobOK Tryd.prog w0 gs_veilref01_SqrtRatio) (hg_veilref04_Neutral : GlobOK Tryd.prog w0 gs_veilref04_Neutral) (hg_veilref05_stands : GlobOK Tryd.prog w0 gs_veilref05_stands) : SoundAt Tryd.prog w0 39 (ct_veilref05_stands N) :=
  s_veilref05_stands N (k_veilref01_SqrtRatio N hg_veilref01_least hg_veilref01_F_Neg hg_veilref01_root hg_veilref01_SqrtRatio) (k_veilref01_F_Sub N hg_veilref01_least hg_veilref01_F_Neg) (k_veilref01_F_Add N hg_veilref01_least) (k_veilref01_D) (k_veilref01_F_Mul N hg_veilref01_least) (k_veilref01_F_Neg hg_veilref01_F_Neg) (k_veilref01_F_Invert N hg_veilref01_least) (k_veilref01_F_Negative) (k_veilref04_Neutral hg_veilref04_Neutral) hg_veilref05_stands

def ct_veilref05_Decode (N : Nat) : Ct := fct (.one (.ints .u8 32)) (.tup (.cons (.agg (.one (.agg (.cons (.ints .i64 10) (.one (.ints .i64 10)))))) (.one (.int .i64)))) fun x => veilref05_Decode N x
def cs_veilref05_Decode (N : Nat) : List (FuncId × Ct) := [(39, (ct_veilref05_stands N)), (54, (ct_veilref01_Decode N)), (55, ct_veilref01_F_Negative), (56, ct_veilref05_Neutral)]
def gs_veilref05_Decode : List Gv := []
noncomputable def ls_veilref05_Decode (N : Nat) : List (Nat × Lf) := []
theorem r_veilref05_Decode (N : Nat) : ∀ x, run Tryd.prog (fun g => lkG g (cs_veilref05_Decode N)) (glAt gs_veilref05_Decode 0) (gs_veilref05_Decode.length + 0) (memAt gs_veilref05_Decode 0 ++ (unc gs_veilref05_Decode.length (Ag.mk ((.one (.ints .u8 32))) x)).2) (fun i => lkL i (ls_veilref05_Decode N)) 100 Tryd.f13 (unc gs_veilref05_Decode.length (Ag.mk ((.one (.ints .u8 32))) x)).1 none (Pt.get ((.tup (.cons (.agg (.one (.agg (.cons (.ints .i64 10) (.one (.ints .i64 10)))))) (.one (.int .i64)))))) = veilref05_Decode N x := by
  intro x; kernel_rfl
theorem s_veilref05_Decode {w0 : World} (N : Nat)  (h39 : SoundAt Tryd.prog w0 39 (ct_veilref05_stands N)) (h54 : SoundAt Tryd.prog w0 54 (ct_veilref01_Decode N)) (h55 : SoundAt Tryd.prog w0 55 ct_veilref01_F_Negative) (h56 : SoundAt Tryd.prog w0 56 ct_veilref05_Neutral) : SoundAt Tryd.prog w0 13 (ct_veilref05_Decode N) := by
  have hcs : ∀ x ∈ cs_veilref05_Decode N, SoundAt Tryd.prog w0 x.1 x.2 := by
    intro x hx
    simp only [cs_veilref05_Decode, List.mem_cons, List.not_mem_nil, or_false] at hx
    rcases hx with rfl | rfl | rfl | rfl
    · exact h39
    · exact h54
    · exact h55
    · exact h56
  exact fn_printed hcs (glob_nil _ _) Tryd.func13 (by kernel_rfl) (by kernel_rfl) (S := 0) (fun w _ => loopsOK_nil _) (fun _ => rfl) (r_veilref05_Decode N)
theorem k_veilref05_Decode {w0 : World} (N : Nat)  (hg_veilref01_least : GlobOK Tryd.prog w0 gs_veilref01_least) (hg_veilref01_F_Neg : GlobOK Tryd.prog w0 gs_veilref01_F_Neg) (hg_veilref01_root : GlobOK Tryd.prog w0 gs_veilref01_root) (hg_veilref01_SqrtRatio : GlobOK Tryd.prog w0 gs_veilref01_SqrtRatio) (hg_veilref04_Neutral : GlobOK Tryd.prog w0 gs_veilref04_Neutral) (hg_veilref05_stands : GlobOK Tryd.prog w0 gs_veilref05_stands) : SoundAt Tryd.prog w0 13 (ct_veilref05_Decode N) :=
  s_veilref05_Decode N (k_veilref05_stands N hg_veilref01_least hg_veilref01_F_Neg hg_veilref01_root hg_veilref01_SqrtRatio hg_veilref04_Neutral hg_veilref05_stands) (k_veilref01_Decode N hg_veilref01_least) (k_veilref01_F_Negative) (k_veilref05_Neutral hg_veilref04_Neutral)

def ct_veilref05_Point_Encode (N : Nat) : Ct := fct (.one (.agg (.one (.agg (.cons (.ints .i64 10) (.one (.ints .i64 10))))))) (.ints .u8 32) fun x => veilref05_Point_Encode N x
def cs_veilref05_Point_Encode (N : Nat) : List (FuncId × Ct) := [(34, (ct_veilref05_coset N)), (35, ct_veilref05_Point_at), (36, (ct_veilref01_SqrtRatio N)), (37, (ct_veilref01_F_Sub N)), (38, (ct_veilref01_F_Add N)), (39, (ct_veilref05_stands N)), (40, (ct_veilref05_Point_Same N)), (41, (ct_veilref01_F_Encode N))]
def gs_veilref05_Point_Encode : List Gv := [⟨0, 38, (.ints .i64 10 [1, 0, 0, 0, 0, 0, 0, 0, 0, 0])⟩]
noncomputable def ls_veilref05_Point_Encode (N : Nat) : List (Nat × Lf) := []
theorem r_veilref05_Point_Encode (N : Nat) : ∀ x, run Tryd.prog (fun g => lkG g (cs_veilref05_Point_Encode N)) (glAt gs_veilref05_Point_Encode 0) (gs_veilref05_Point_Encode.length + 0) (memAt gs_veilref05_Point_Encode 0 ++ (unc gs_veilref05_Point_Encode.length (Ag.mk ((.one (.agg (.one (.agg (.cons (.ints .i64 10) (.one (.ints .i64 10)))))))) x)).2) (fun i => lkL i (ls_veilref05_Point_Encode N)) 100 Tryd.f8 (unc gs_veilref05_Point_Encode.length (Ag.mk ((.one (.agg (.one (.agg (.cons (.ints .i64 10) (.one (.ints .i64 10)))))))) x)).1 none (Pt.get ((.ints .u8 32))) = veilref05_Point_Encode N x := by
  intro x; kernel_rfl
theorem s_veilref05_Point_Encode {w0 : World} (N : Nat)  (h34 : SoundAt Tryd.prog w0 34 (ct_veilref05_coset N)) (h35 : SoundAt Tryd.prog w0 35 ct_veilref05_Point_at) (h36 : SoundAt Tryd.prog w0 36 (ct_veilref01_SqrtRatio N)) (h37 : SoundAt Tryd.prog w0 37 (ct_veilref01_F_Sub N)) (h38 : SoundAt Tryd.prog w0 38 (ct_veilref01_F_Add N)) (h39 : SoundAt Tryd.prog w0 39 (ct_veilref05_stands N)) (h40 : SoundAt Tryd.prog w0 40 (ct_veilref05_Point_Same N)) (h41 : SoundAt Tryd.prog w0 41 (ct_veilref01_F_Encode N)) (hg : GlobOK Tryd.prog w0 gs_veilref05_Point_Encode) : SoundAt Tryd.prog w0 8 (ct_veilref05_Point_Encode N) := by
  have hcs : ∀ x ∈ cs_veilref05_Point_Encode N, SoundAt Tryd.prog w0 x.1 x.2 := by
    intro x hx
    simp only [cs_veilref05_Point_Encode, List.mem_cons, List.not_mem_nil, or_false] at hx
    rcases hx with rfl | rfl | rfl | rfl | rfl | rfl | rfl | rfl
    · exact h34
    · exact h35
    · exact h36
    · exact h37
    · exact h38
    · exact h39
    · exact h40
    · exact h41
  exact fn_printed hcs hg Tryd.func8 (by kernel_rfl) (by kernel_rfl) (S := 0) (fun w _ => loopsOK_nil _) (fun _ => rfl) (r_veilref05_Point_Encode N)
theorem k_veilref05_Point_Encode {w0 : World} (N : Nat)  (hg_veilref01_least : GlobOK Tryd.prog w0 gs_veilref01_least) (hg_veilref01_F_Neg : GlobOK Tryd.prog w0 gs_veilref01_F_Neg) (hg_veilref04_Neutral : GlobOK Tryd.prog w0 gs_veilref04_Neutral) (hg_veilref01_root : GlobOK Tryd.prog w0 gs_veilref01_root) (hg_veilref01_SqrtRatio : GlobOK Tryd.prog w0 gs_veilref01_SqrtRatio) (hg_veilref05_stands : GlobOK Tryd.prog w0 gs_veilref05_stands) (hg_veilref05_Point_Encode : GlobOK Tryd.prog w0 gs_veilref05_Point_Encode) : SoundAt Tryd.prog w0 8 (ct_veilref05_Point_Encode N) :=
  s_veilref05_Point_Encode N (k_veilref05_coset N hg_veilref01_least hg_veilref01_F_Neg) (k_veilref05_Point_at hg_veilref04_Neutral) (k_veilref01_SqrtRatio N hg_veilref01_least hg_veilref01_F_Neg hg_veilref01_root hg_veilref01_SqrtRatio) (k_veilref01_F_Sub N hg_veilref01_least hg_veilref01_F_Neg) (k_veilref01_F_Add N hg_veilref01_least) (k_veilref05_stands N hg_veilref01_least hg_veilref01_F_Neg hg_veilref01_root hg_veilref01_SqrtRatio hg_veilref04_Neutral hg_veilref05_stands) (k_veilref05_Point_Same N hg_veilref01_least hg_veilref01_F_Neg hg_veilref04_Neutral) (k_veilref01_F_Encode N) hg_veilref05_Point_Encode

def ct_veilref05_Point_Add (N : Nat) : Ct := fct (.cons (.agg (.one (.agg (.cons (.ints .i64 10) (.one (.ints .i64 10)))))) (.one (.agg (.one (.agg (.cons (.ints .i64 10) (.one (.ints .i64 10)))))))) (.agg (.one (.agg (.cons (.ints .i64 10) (.one (.ints .i64 10)))))) fun x => veilref05_Point_Add N x.1 x.2
def cs_veilref05_Point_Add (N : Nat) : List (FuncId × Ct) := [(35, ct_veilref05_Point_at), (69, (ct_veilref04_Point_Add N))]
def gs_veilref05_Point_Add : List Gv := []
noncomputable def ls_veilref05_Point_Add (N : Nat) : List (Nat × Lf) := []
theorem r_veilref05_Point_Add (N : Nat) : ∀ x, run Tryd.prog (fun g => lkG g (cs_veilref05_Point_Add N)) (glAt gs_veilref05_Point_Add 0) (gs_veilref05_Point_Add.length + 0) (memAt gs_veilref05_Point_Add 0 ++ (unc gs_veilref05_Point_Add.length (Ag.mk ((.cons (.agg (.one (.agg (.cons (.ints .i64 10) (.one (.ints .i64 10)))))) (.one (.agg (.one (.agg (.cons (.ints .i64 10) (.one (.ints .i64 10))))))))) x)).2) (fun i => lkL i (ls_veilref05_Point_Add N)) 100 Tryd.f33 (unc gs_veilref05_Point_Add.length (Ag.mk ((.cons (.agg (.one (.agg (.cons (.ints .i64 10) (.one (.ints .i64 10)))))) (.one (.agg (.one (.agg (.cons (.ints .i64 10) (.one (.ints .i64 10))))))))) x)).1 none (Pt.get ((.agg (.one (.agg (.cons (.ints .i64 10) (.one (.ints .i64 10)))))))) = veilref05_Point_Add N x.1 x.2 := by
  intro x; kernel_rfl
theorem s_veilref05_Point_Add {w0 : World} (N : Nat)  (h35 : SoundAt Tryd.prog w0 35 ct_veilref05_Point_at) (h69 : SoundAt Tryd.prog w0 69 (ct_veilref04_Point_Add N)) : SoundAt Tryd.prog w0 33 (ct_veilref05_Point_Add N) := by
  have hcs : ∀ x ∈ cs_veilref05_Point_Add N, SoundAt Tryd.prog w0 x.1 x.2 := by
    intro x hx
    simp only [cs_veilref05_Point_Add, List.mem_cons, List.not_mem_nil, or_false] at hx
    rcases hx with rfl | rfl
    · exact h35
    · exact h69
  exact fn_printed hcs (glob_nil _ _) Tryd.func33 (by kernel_rfl) (by kernel_rfl) (S := 0) (fun w _ => loopsOK_nil _) (fun _ => rfl) (r_veilref05_Point_Add N)
theorem k_veilref05_Point_Add {w0 : World} (N : Nat)  (hg_veilref04_Neutral : GlobOK Tryd.prog w0 gs_veilref04_Neutral) (hg_veilref01_least : GlobOK Tryd.prog w0 gs_veilref01_least) (hg_veilref01_F_Neg : GlobOK Tryd.prog w0 gs_veilref01_F_Neg) (hg_veilref04_Point_Add : GlobOK Tryd.prog w0 gs_veilref04_Point_Add) : SoundAt Tryd.prog w0 33 (ct_veilref05_Point_Add N) :=
  s_veilref05_Point_Add N (k_veilref05_Point_at hg_veilref04_Neutral) (k_veilref04_Point_Add N hg_veilref01_least hg_veilref01_F_Neg hg_veilref04_Point_Add)

def ct_veilref05_MapHalf (N : Nat) : Ct := fct (.one (.ints .i64 10)) (.agg (.one (.agg (.cons (.ints .i64 10) (.one (.ints .i64 10)))))) fun x => veilref05_MapHalf N x
def cs_veilref05_MapHalf (N : Nat) : List (FuncId × Ct) := [(36, (ct_veilref01_SqrtRatio N)), (37, (ct_veilref01_F_Sub N)), (38, (ct_veilref01_F_Add N)), (44, ct_veilref01_D), (45, ct_veilref01_I), (46, (ct_veilref01_F_Mul N)), (47, ct_veilref01_F_Neg), (48, ct_veilref01_F_Abs), (49, (ct_veilref01_Const N)), (50, (ct_veilref01_F_Invert N))]
def gs_veilref05_MapHalf : List Gv := [⟨0, 38, (.ints .i64 10 [1, 0, 0, 0, 0, 0, 0, 0, 0, 0])⟩]
noncomputable def ls_veilref05_MapHalf (N : Nat) : List (Nat × Lf) := []
theorem r_veilref05_MapHalf (N : Nat) : ∀ x, run Tryd.prog (fun g => lkG g (cs_veilref05_MapHalf N)) (glAt gs_veilref05_MapHalf 0) (gs_veilref05_MapHalf.length + 0) (memAt gs_veilref05_MapHalf 0 ++ (unc gs_veilref05_MapHalf.length (Ag.mk ((.one (.ints .i64 10))) x)).2) (fun i => lkL i (ls_veilref05_MapHalf N)) 100 Tryd.f10 (unc gs_veilref05_MapHalf.length (Ag.mk ((.one (.ints .i64 10))) x)).1 none (Pt.get ((.agg (.one (.agg (.cons (.ints .i64 10) (.one (.ints .i64 10)))))))) = veilref05_MapHalf N x := by
  intro x; kernel_rfl
theorem s_veilref05_MapHalf {w0 : World} (N : Nat)  (h36 : SoundAt Tryd.prog w0 36 (ct_veilref01_SqrtRatio N)) (h37 : SoundAt Tryd.prog w0 37 (ct_veilref01_F_Sub N)) (h38 : SoundAt Tryd.prog w0 38 (ct_veilref01_F_Add N)) (h44 : SoundAt Tryd.prog w0 44 ct_veilref01_D) (h45 : SoundAt Tryd.prog w0 45 ct_veilref01_I) (h46 : SoundAt Tryd.prog w0 46 (ct_veilref01_F_Mul N)) (h47 : SoundAt Tryd.prog w0 47 ct_veilref01_F_Neg) (h48 : SoundAt Tryd.prog w0 48 ct_veilref01_F_Abs) (h49 : SoundAt Tryd.prog w0 49 (ct_veilref01_Const N)) (h50 : SoundAt Tryd.prog w0 50 (ct_veilref01_F_Invert N)) (hg : GlobOK Tryd.prog w0 gs_veilref05_MapHalf) : SoundAt Tryd.prog w0 10 (ct_veilref05_MapHalf N) := by
  have hcs : ∀ x ∈ cs_veilref05_MapHalf N, SoundAt Tryd.prog w0 x.1 x.2 := by
    intro x hx
    simp only [cs_veilref05_MapHalf, List.mem_cons, List.not_mem_nil, or_false] at hx
    rcases hx with rfl | rfl | rfl | rfl | rfl | rfl | rfl | rfl | rfl | rfl
    · exact h36
    · exact h37
    · exact h38
    · exact h44
    · exact h45
    · exact h46
    · exact h47
    · exact h48
    · exact h49
    · exact h50
  exact fn_printed hcs hg Tryd.func10 (by kernel_rfl) (by kernel_rfl) (S := 0) (fun w _ => loopsOK_nil _) (fun _ => rfl) (r_veilref05_MapHalf N)
theorem k_veilref05_MapHalf {w0 : World} (N : Nat)  (hg_veilref01_least : GlobOK Tryd.prog w0 gs_veilref01_least) (hg_veilref01_F_Neg : GlobOK Tryd.prog w0 gs_veilref01_F_Neg) (hg_veilref01_root : GlobOK Tryd.prog w0 gs_veilref01_root) (hg_veilref01_SqrtRatio : GlobOK Tryd.prog w0 gs_veilref01_SqrtRatio) (hg_veilref01_Const : GlobOK Tryd.prog w0 gs_veilref01_Const) (hg_veilref05_MapHalf : GlobOK Tryd.prog w0 gs_veilref05_MapHalf) : SoundAt Tryd.prog w0 10 (ct_veilref05_MapHalf N) :=
  s_veilref05_MapHalf N (k_veilref01_SqrtRatio N hg_veilref01_least hg_veilref01_F_Neg hg_veilref01_root hg_veilref01_SqrtRatio) (k_veilref01_F_Sub N hg_veilref01_least hg_veilref01_F_Neg) (k_veilref01_F_Add N hg_veilref01_least) (k_veilref01_D) (k_veilref01_I) (k_veilref01_F_Mul N hg_veilref01_least) (k_veilref01_F_Neg hg_veilref01_F_Neg) (k_veilref01_F_Abs hg_veilref01_F_Neg) (k_veilref01_Const N hg_veilref01_least hg_veilref01_F_Neg hg_veilref01_root hg_veilref01_Const) (k_veilref01_F_Invert N hg_veilref01_least) hg_veilref05_MapHalf

def ct_veilref05_Map (N : Nat) : Ct := fct (.one (.ints .u8 64)) (.agg (.one (.agg (.cons (.ints .i64 10) (.one (.ints .i64 10)))))) fun x => veilref05_Map N x
def cs_veilref05_Map (N : Nat) : List (FuncId × Ct) := [(10, (ct_veilref05_MapHalf N)), (32, (ct_veilref01_Reduce N)), (33, (ct_veilref05_Point_Add N))]
def gs_veilref05_Map : List Gv := []
def veilref05_Map_l0_H : Fm ((Unit × Unit × Unit × Unit × Int)) ((List Int × Unit × List Int × List Int)) := ⟨(.cons 1 (.lit (.ptr 0 [] 23)) (.cons 2 (.lit (.ptr 1 [] 42)) (.cons 3 (.lit (.ptr 2 [] 27)) (.cons 4 (.lit (.ptr 3 [] 27)) (.one 5 (.int .i64)))))), (.cons 0 (.ints .u8 64) (.cons 1 (.lit (.agg [(.agg [(.ints .i64 10 [0, 0, 0, 0, 0, 0, 0, 0, 0, 0]), (.ints .i64 10 [0, 0, 0, 0, 0, 0, 0, 0, 0, 0])])])) (.cons 2 (.ints .u8 32) (.one 3 (.ints .u8 32)))))⟩
def veilref05_Map_l0_O : Fm ((Unit × Unit × Unit)) ((Unit × List Int × List Int)) := ⟨(.cons 2 (.lit (.ptr 1 [] 42)) (.cons 3 (.lit (.ptr 2 [] 27)) (.one 4 (.lit (.ptr 3 [] 27))))), (.cons 1 (.lit (.agg [(.agg [(.ints .i64 10 [0, 0, 0, 0, 0, 0, 0, 0, 0, 0]), (.ints .i64 10 [0, 0, 0, 0, 0, 0, 0, 0, 0, 0])])])) (.cons 2 (.ints .u8 32) (.one 3 (.ints .u8 32))))⟩
def veilref05_Map_l0_T : Fm (Unit) (Unit) := ⟨.nil, .nil⟩
noncomputable def ls_veilref05_Map (N : Nat) : List (Nat × Lf) := [(0, loopCt veilref05_Map_l0_H veilref05_Map_l0_O veilref05_Map_l0_T 5 (veilref05_Map_l0 N) N)]
theorem veilref05_Map_l0_step (N : Nat) : ∀ v, exec Tryd.prog (cxOf Tryd.f7 (cs_veilref05_Map N) gs_veilref05_Map 0) (fun i => lkL i (ls_veilref05_Map N)) 100 none (loopBody Tryd.f7 0) (veilref05_Map_l0_H.st 5 v) (rdEnd veilref05_Map_l0_H veilref05_Map_l0_O veilref05_Map_l0_T 5 0) = veilref05_Map_l0 N v := by
  intro v; kernel_rfl
theorem r_veilref05_Map (N : Nat) : ∀ x, run Tryd.prog (fun g => lkG g (cs_veilref05_Map N)) (glAt gs_veilref05_Map 0) (gs_veilref05_Map.length + 0) (memAt gs_veilref05_Map 0 ++ (unc gs_veilref05_Map.length (Ag.mk ((.one (.ints .u8 64))) x)).2) (fun i => lkL i (ls_veilref05_Map N)) 100 Tryd.f7 (unc gs_veilref05_Map.length (Ag.mk ((.one (.ints .u8 64))) x)).1 none (Pt.get ((.agg (.one (.agg (.cons (.ints .i64 10) (.one (.ints .i64 10)))))))) = veilref05_Map N x := by
  intro x; kernel_rfl
theorem s_veilref05_Map {w0 : World} (N : Nat)  (h10 : SoundAt Tryd.prog w0 10 (ct_veilref05_MapHalf N)) (h32 : SoundAt Tryd.prog w0 32 (ct_veilref01_Reduce N)) (h33 : SoundAt Tryd.prog w0 33 (ct_veilref05_Point_Add N)) : SoundAt Tryd.prog w0 7 (ct_veilref05_Map N) := by
  have hcs : ∀ x ∈ cs_veilref05_Map N, SoundAt Tryd.prog w0 x.1 x.2 := by
    intro x hx
    simp only [cs_veilref05_Map, List.mem_cons, List.not_mem_nil, or_false] at hx
    rcases hx with rfl | rfl | rfl
    · exact h10
    · exact h32
    · exact h33
  have L0 : ∀ w, RowKit.Below w0.heap.size w0 w → LoopOK Tryd.prog (cxOf Tryd.f7 (cs_veilref05_Map N) gs_veilref05_Map 0) w 0 (.loop (loopBody Tryd.f7 0)) (loopCt veilref05_Map_l0_H veilref05_Map_l0_O veilref05_Map_l0_T 5 (veilref05_Map_l0 N) N) :=
    loop_printed hcs (ls := ls_veilref05_Map N) (n := 100) (by kernel_rfl) (veilref05_Map_l0_step N) N fun w hw => loopsOK_list (by
      intro x hx
      simp only [ls_veilref05_Map, List.mem_cons, List.not_mem_nil, or_false] at hx
      rcases hx with rfl
      · exact .inl (by kernel_rfl)
    )
  exact fn_printed hcs (glob_nil _ _) Tryd.func7 (by kernel_rfl) (by kernel_rfl) (S := 0) (fun w hw => loopsOK_list (by
    intro x hx
    simp only [ls_veilref05_Map, List.mem_cons, List.not_mem_nil, or_false] at hx
    rcases hx with rfl
    · exact .inr ⟨_, by kernel_rfl, L0 w hw⟩
  )) (fun _ => rfl) (r_veilref05_Map N)
theorem k_veilref05_Map {w0 : World} (N : Nat)  (hg_veilref01_least : GlobOK Tryd.prog w0 gs_veilref01_least) (hg_veilref01_F_Neg : GlobOK Tryd.prog w0 gs_veilref01_F_Neg) (hg_veilref01_root : GlobOK Tryd.prog w0 gs_veilref01_root) (hg_veilref01_SqrtRatio : GlobOK Tryd.prog w0 gs_veilref01_SqrtRatio) (hg_veilref01_Const : GlobOK Tryd.prog w0 gs_veilref01_Const) (hg_veilref05_MapHalf : GlobOK Tryd.prog w0 gs_veilref05_MapHalf) (hg_veilref04_Neutral : GlobOK Tryd.prog w0 gs_veilref04_Neutral) (hg_veilref04_Point_Add : GlobOK Tryd.prog w0 gs_veilref04_Point_Add) : SoundAt Tryd.prog w0 7 (ct_veilref05_Map N) :=
  s_veilref05_Map N (k_veilref05_MapHalf N hg_veilref01_least hg_veilref01_F_Neg hg_veilref01_root hg_veilref01_SqrtRatio hg_veilref01_Const hg_veilref05_MapHalf) (k_veilref01_Reduce N hg_veilref01_least) (k_veilref05_Point_Add N hg_veilref04_Neutral hg_veilref01_least hg_veilref01_F_Neg hg_veilref04_Point_Add)

def ct_veilref05_Base (N : Nat) : Ct := fct .nil (.agg (.one (.agg (.cons (.ints .i64 10) (.one (.ints .i64 10)))))) fun x => veilref05_Base N
def cs_veilref05_Base (N : Nat) : List (FuncId × Ct) := [(58, (ct_veilref04_Base N))]
def gs_veilref05_Base : List Gv := []
noncomputable def ls_veilref05_Base (N : Nat) : List (Nat × Lf) := []
theorem r_veilref05_Base (N : Nat) : ∀ x, run Tryd.prog (fun g => lkG g (cs_veilref05_Base N)) (glAt gs_veilref05_Base 0) (gs_veilref05_Base.length + 0) (memAt gs_veilref05_Base 0 ++ (unc gs_veilref05_Base.length (Ag.mk (.nil) x)).2) (fun i => lkL i (ls_veilref05_Base N)) 100 Tryd.f15 (unc gs_veilref05_Base.length (Ag.mk (.nil) x)).1 none (Pt.get ((.agg (.one (.agg (.cons (.ints .i64 10) (.one (.ints .i64 10)))))))) = veilref05_Base N := by
  intro x; kernel_rfl
theorem s_veilref05_Base {w0 : World} (N : Nat)  (h58 : SoundAt Tryd.prog w0 58 (ct_veilref04_Base N)) : SoundAt Tryd.prog w0 15 (ct_veilref05_Base N) := by
  have hcs : ∀ x ∈ cs_veilref05_Base N, SoundAt Tryd.prog w0 x.1 x.2 := by
    intro x hx
    simp only [cs_veilref05_Base, List.mem_cons, List.not_mem_nil, or_false] at hx
    rcases hx with rfl
    · exact h58
  exact fn_printed hcs (glob_nil _ _) Tryd.func15 (by kernel_rfl) (by kernel_rfl) (S := 0) (fun w _ => loopsOK_nil _) (fun _ => rfl) (r_veilref05_Base N)
theorem k_veilref05_Base {w0 : World} (N : Nat)  (hg_veilref01_least : GlobOK Tryd.prog w0 gs_veilref01_least) (hg_veilref01_F_Neg : GlobOK Tryd.prog w0 gs_veilref01_F_Neg) (hg_veilref01_root : GlobOK Tryd.prog w0 gs_veilref01_root) (hg_veilref01_SqrtRatio : GlobOK Tryd.prog w0 gs_veilref01_SqrtRatio) (hg_veilref04_XOf : GlobOK Tryd.prog w0 gs_veilref04_XOf) : SoundAt Tryd.prog w0 15 (ct_veilref05_Base N) :=
  s_veilref05_Base N (k_veilref04_Base N hg_veilref01_least hg_veilref01_F_Neg hg_veilref01_root hg_veilref01_SqrtRatio hg_veilref04_XOf)

def ct_veillaw05_GroupMaps (N : Nat) : Ct := fct (.cons (.ints .u8 64) (.one (.ints .u64 5))) .bool fun x => veillaw05_GroupMaps N x.1 x.2
def cs_veillaw05_GroupMaps (N : Nat) : List (FuncId × Ct) := [(5, (ct_group_Map N)), (6, (ct_group_Point_Encode N)), (7, (ct_veilref05_Map N)), (8, (ct_veilref05_Point_Encode N)), (9, (ct_group_MapHalf N)), (10, (ct_veilref05_MapHalf N)), (11, (ct_veilref01_Of N))]
def gs_veillaw05_GroupMaps : List Gv := []
noncomputable def ls_veillaw05_GroupMaps (N : Nat) : List (Nat × Lf) := []
theorem r_veillaw05_GroupMaps (N : Nat) : ∀ x, run Tryd.prog (fun g => lkG g (cs_veillaw05_GroupMaps N)) (glAt gs_veillaw05_GroupMaps 0) (gs_veillaw05_GroupMaps.length + 0) (memAt gs_veillaw05_GroupMaps 0 ++ (unc gs_veillaw05_GroupMaps.length (Ag.mk ((.cons (.ints .u8 64) (.one (.ints .u64 5)))) x)).2) (fun i => lkL i (ls_veillaw05_GroupMaps N)) 100 Tryd.f3 (unc gs_veillaw05_GroupMaps.length (Ag.mk ((.cons (.ints .u8 64) (.one (.ints .u64 5)))) x)).1 none (Pt.get (.bool)) = veillaw05_GroupMaps N x.1 x.2 := by
  intro x; kernel_rfl
theorem s_veillaw05_GroupMaps {w0 : World} (N : Nat)  (h5 : SoundAt Tryd.prog w0 5 (ct_group_Map N)) (h6 : SoundAt Tryd.prog w0 6 (ct_group_Point_Encode N)) (h7 : SoundAt Tryd.prog w0 7 (ct_veilref05_Map N)) (h8 : SoundAt Tryd.prog w0 8 (ct_veilref05_Point_Encode N)) (h9 : SoundAt Tryd.prog w0 9 (ct_group_MapHalf N)) (h10 : SoundAt Tryd.prog w0 10 (ct_veilref05_MapHalf N)) (h11 : SoundAt Tryd.prog w0 11 (ct_veilref01_Of N)) : SoundAt Tryd.prog w0 3 (ct_veillaw05_GroupMaps N) := by
  have hcs : ∀ x ∈ cs_veillaw05_GroupMaps N, SoundAt Tryd.prog w0 x.1 x.2 := by
    intro x hx
    simp only [cs_veillaw05_GroupMaps, List.mem_cons, List.not_mem_nil, or_false] at hx
    rcases hx with rfl | rfl | rfl | rfl | rfl | rfl | rfl
    · exact h5
    · exact h6
    · exact h7
    · exact h8
    · exact h9
    · exact h10
    · exact h11
  exact fn_printed hcs (glob_nil _ _) Tryd.func3 (by kernel_rfl) (by kernel_rfl) (S := 0) (fun w _ => loopsOK_nil _) (fun _ => rfl) (r_veillaw05_GroupMaps N)
theorem k_veillaw05_GroupMaps {w0 : World} (N : Nat)  (hg_field_SqrtRatio : GlobOK Tryd.prog w0 gs_field_SqrtRatio) (hg_field_Const : GlobOK Tryd.prog w0 gs_field_Const) (hg_curve_at : GlobOK Tryd.prog w0 gs_curve_at) (hg_curve_FromAffine : GlobOK Tryd.prog w0 gs_curve_FromAffine) (hg_curve_place_whole : GlobOK Tryd.prog w0 gs_curve_place_whole) (hg_curve_Point_Add : GlobOK Tryd.prog w0 gs_curve_Point_Add) (hg_veilref01_least : GlobOK Tryd.prog w0 gs_veilref01_least) (hg_veilref01_F_Neg : GlobOK Tryd.prog w0 gs_veilref01_F_Neg) (hg_veilref01_root : GlobOK Tryd.prog w0 gs_veilref01_root) (hg_veilref01_SqrtRatio : GlobOK Tryd.prog w0 gs_veilref01_SqrtRatio) (hg_veilref01_Const : GlobOK Tryd.prog w0 gs_veilref01_Const) (hg_veilref05_MapHalf : GlobOK Tryd.prog w0 gs_veilref05_MapHalf) (hg_veilref04_Neutral : GlobOK Tryd.prog w0 gs_veilref04_Neutral) (hg_veilref04_Point_Add : GlobOK Tryd.prog w0 gs_veilref04_Point_Add) (hg_veilref05_stands : GlobOK Tryd.prog w0 gs_veilref05_stands) (hg_veilref05_Point_Encode : GlobOK Tryd.prog w0 gs_veilref05_Point_Encode) : SoundAt Tryd.prog w0 3 (ct_veillaw05_GroupMaps N) :=
  s_veillaw05_GroupMaps N (k_group_Map N hg_field_SqrtRatio hg_field_Const hg_curve_at hg_curve_FromAffine hg_curve_place_whole hg_curve_Point_Add) (k_group_Point_Encode N hg_curve_place_whole hg_field_SqrtRatio hg_field_Const) (k_veilref05_Map N hg_veilref01_least hg_veilref01_F_Neg hg_veilref01_root hg_veilref01_SqrtRatio hg_veilref01_Const hg_veilref05_MapHalf hg_veilref04_Neutral hg_veilref04_Point_Add) (k_veilref05_Point_Encode N hg_veilref01_least hg_veilref01_F_Neg hg_veilref04_Neutral hg_veilref01_root hg_veilref01_SqrtRatio hg_veilref05_stands hg_veilref05_Point_Encode) (k_group_MapHalf N hg_field_SqrtRatio hg_field_Const hg_curve_at hg_curve_FromAffine) (k_veilref05_MapHalf N hg_veilref01_least hg_veilref01_F_Neg hg_veilref01_root hg_veilref01_SqrtRatio hg_veilref01_Const hg_veilref05_MapHalf) (k_veilref01_Of N hg_veilref01_least)

def ct_veillaw05_GroupDecodes (N : Nat) : Ct := fct (.cons (.ints .u8 32) (.one (.ints .u8 64))) .bool fun x => veillaw05_GroupDecodes N x.1 x.2
def cs_veillaw05_GroupDecodes (N : Nat) : List (FuncId × Ct) := [(5, (ct_group_Map N)), (6, (ct_group_Point_Encode N)), (8, (ct_veilref05_Point_Encode N)), (12, (ct_group_Point_Decode N)), (13, (ct_veilref05_Decode N)), (14, ct_group_Base), (15, (ct_veilref05_Base N))]
def gs_veillaw05_GroupDecodes : List Gv := []
noncomputable def ls_veillaw05_GroupDecodes (N : Nat) : List (Nat × Lf) := []
theorem r_veillaw05_GroupDecodes (N : Nat) : ∀ x, run Tryd.prog (fun g => lkG g (cs_veillaw05_GroupDecodes N)) (glAt gs_veillaw05_GroupDecodes 0) (gs_veillaw05_GroupDecodes.length + 0) (memAt gs_veillaw05_GroupDecodes 0 ++ (unc gs_veillaw05_GroupDecodes.length (Ag.mk ((.cons (.ints .u8 32) (.one (.ints .u8 64)))) x)).2) (fun i => lkL i (ls_veillaw05_GroupDecodes N)) 100 Tryd.f4 (unc gs_veillaw05_GroupDecodes.length (Ag.mk ((.cons (.ints .u8 32) (.one (.ints .u8 64)))) x)).1 none (Pt.get (.bool)) = veillaw05_GroupDecodes N x.1 x.2 := by
  intro x; kernel_rfl
theorem s_veillaw05_GroupDecodes {w0 : World} (N : Nat)  (h5 : SoundAt Tryd.prog w0 5 (ct_group_Map N)) (h6 : SoundAt Tryd.prog w0 6 (ct_group_Point_Encode N)) (h8 : SoundAt Tryd.prog w0 8 (ct_veilref05_Point_Encode N)) (h12 : SoundAt Tryd.prog w0 12 (ct_group_Point_Decode N)) (h13 : SoundAt Tryd.prog w0 13 (ct_veilref05_Decode N)) (h14 : SoundAt Tryd.prog w0 14 ct_group_Base) (h15 : SoundAt Tryd.prog w0 15 (ct_veilref05_Base N)) : SoundAt Tryd.prog w0 4 (ct_veillaw05_GroupDecodes N) := by
  have hcs : ∀ x ∈ cs_veillaw05_GroupDecodes N, SoundAt Tryd.prog w0 x.1 x.2 := by
    intro x hx
    simp only [cs_veillaw05_GroupDecodes, List.mem_cons, List.not_mem_nil, or_false] at hx
    rcases hx with rfl | rfl | rfl | rfl | rfl | rfl | rfl
    · exact h5
    · exact h6
    · exact h8
    · exact h12
    · exact h13
    · exact h14
    · exact h15
  exact fn_printed hcs (glob_nil _ _) Tryd.func4 (by kernel_rfl) (by kernel_rfl) (S := 0) (fun w _ => loopsOK_nil _) (fun _ => rfl) (r_veillaw05_GroupDecodes N)
theorem k_veillaw05_GroupDecodes {w0 : World} (N : Nat)  (hg_field_SqrtRatio : GlobOK Tryd.prog w0 gs_field_SqrtRatio) (hg_field_Const : GlobOK Tryd.prog w0 gs_field_Const) (hg_curve_at : GlobOK Tryd.prog w0 gs_curve_at) (hg_curve_FromAffine : GlobOK Tryd.prog w0 gs_curve_FromAffine) (hg_curve_place_whole : GlobOK Tryd.prog w0 gs_curve_place_whole) (hg_curve_Point_Add : GlobOK Tryd.prog w0 gs_curve_Point_Add) (hg_veilref01_least : GlobOK Tryd.prog w0 gs_veilref01_least) (hg_veilref01_F_Neg : GlobOK Tryd.prog w0 gs_veilref01_F_Neg) (hg_veilref04_Neutral : GlobOK Tryd.prog w0 gs_veilref04_Neutral) (hg_veilref01_root : GlobOK Tryd.prog w0 gs_veilref01_root) (hg_veilref01_SqrtRatio : GlobOK Tryd.prog w0 gs_veilref01_SqrtRatio) (hg_veilref05_stands : GlobOK Tryd.prog w0 gs_veilref05_stands) (hg_veilref05_Point_Encode : GlobOK Tryd.prog w0 gs_veilref05_Point_Encode) (hg_curve_Base : GlobOK Tryd.prog w0 gs_curve_Base) (hg_veilref04_XOf : GlobOK Tryd.prog w0 gs_veilref04_XOf) : SoundAt Tryd.prog w0 4 (ct_veillaw05_GroupDecodes N) :=
  s_veillaw05_GroupDecodes N (k_group_Map N hg_field_SqrtRatio hg_field_Const hg_curve_at hg_curve_FromAffine hg_curve_place_whole hg_curve_Point_Add) (k_group_Point_Encode N hg_curve_place_whole hg_field_SqrtRatio hg_field_Const) (k_veilref05_Point_Encode N hg_veilref01_least hg_veilref01_F_Neg hg_veilref04_Neutral hg_veilref01_root hg_veilref01_SqrtRatio hg_veilref05_stands hg_veilref05_Point_Encode) (k_group_Point_Decode N hg_field_SqrtRatio hg_field_Const hg_curve_at hg_curve_FromAffine) (k_veilref05_Decode N hg_veilref01_least hg_veilref01_F_Neg hg_veilref01_root hg_veilref01_SqrtRatio hg_veilref04_Neutral hg_veilref05_stands) (k_group_Base hg_curve_Base) (k_veilref05_Base N hg_veilref01_least hg_veilref01_F_Neg hg_veilref01_root hg_veilref01_SqrtRatio hg_veilref04_XOf)

end Go.Vx
