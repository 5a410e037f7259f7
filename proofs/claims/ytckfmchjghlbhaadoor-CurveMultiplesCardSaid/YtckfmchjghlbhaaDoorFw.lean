import Derived.Test.YtckfmchjghlbhaaDoorFp
import Derived.Test.YtckfmchjghlbhaaDoorProg
set_option autoImplicit false
set_option linter.unusedVariables false
set_option linter.unusedSimpArgs false
namespace Go.Vx
open Go Go.Proofs

def ct_bits_Add64 : Ct := fct (.cons (.int .u64) (.cons (.int .u64) (.one (.int .u64)))) (.tup (.cons (.int .u64) (.one (.int .u64)))) fun x => bits_Add64 x.1 x.2.1 x.2.2

theorem k_bits_Add64 {w0 : World} : SoundAt Tryd.prog w0 62 ct_bits_Add64 :=
  sound_add64 Tryd.func62 (by kernel_rfl) (by kernel_rfl) (by kernel_rfl) (by kernel_rfl)

def ct_bits_Sub64 : Ct := fct (.cons (.int .u64) (.cons (.int .u64) (.one (.int .u64)))) (.tup (.cons (.int .u64) (.one (.int .u64)))) fun x => bits_Sub64 x.1 x.2.1 x.2.2

theorem k_bits_Sub64 {w0 : World} : SoundAt Tryd.prog w0 71 ct_bits_Sub64 :=
  sound_sub64 Tryd.func71 (by kernel_rfl) (by kernel_rfl) (by kernel_rfl) (by kernel_rfl)

def ct_field_Elem_light : Ct := tct (.one (.ints .u64 5)) (.ints .u64 5) fun x => field_Elem_light x
def cs_field_Elem_light : List (FuncId × Ct) := []
def gs_field_Elem_light : List Gv := []
noncomputable def ls_field_Elem_light : List (Nat × Lf) := []
theorem r_field_Elem_light : ∀ x, run Tryd.prog (fun g => lkG g (cs_field_Elem_light)) (glAt gs_field_Elem_light 0) (gs_field_Elem_light.length + 0) (memAt gs_field_Elem_light 0 ++ (unc gs_field_Elem_light.length (Ag.mk ((.one (.ints .u64 5))) x)).2) (fun i => lkL i (ls_field_Elem_light)) 100 Tryd.f60 (unc gs_field_Elem_light.length (Ag.mk ((.one (.ints .u64 5))) x)).1 none (Pt.get ((.ints .u64 5))) = some (field_Elem_light x) := by
  intro x; kernel_rfl
theorem s_field_Elem_light {w0 : World}  : SoundAt Tryd.prog w0 60 ct_field_Elem_light := by
  have hcs : ∀ x ∈ cs_field_Elem_light, SoundAt Tryd.prog w0 x.1 x.2 := by
    intro x hx
    simp [cs_field_Elem_light] at hx
  exact sound_tct (fn_printed hcs (glob_nil _ _) Tryd.func60 (by kernel_rfl) (by kernel_rfl) (S := 0) (fun w _ => loopsOK_nil _) (fun _ => rfl) (r_field_Elem_light)) fun _ _ => rfl
theorem k_field_Elem_light {w0 : World}  : SoundAt Tryd.prog w0 60 ct_field_Elem_light :=
  s_field_Elem_light

def ct_field_Elem_Least : Ct := tct (.one (.ints .u64 5)) (.ints .u64 5) fun x => field_Elem_Least x
def cs_field_Elem_Least : List (FuncId × Ct) := [(60, ct_field_Elem_light)]
def gs_field_Elem_Least : List Gv := []
noncomputable def ls_field_Elem_Least : List (Nat × Lf) := []
theorem r_field_Elem_Least : ∀ x, run Tryd.prog (fun g => lkG g (cs_field_Elem_Least)) (glAt gs_field_Elem_Least 0) (gs_field_Elem_Least.length + 0) (memAt gs_field_Elem_Least 0 ++ (unc gs_field_Elem_Least.length (Ag.mk ((.one (.ints .u64 5))) x)).2) (fun i => lkL i (ls_field_Elem_Least)) 100 Tryd.f42 (unc gs_field_Elem_Least.length (Ag.mk ((.one (.ints .u64 5))) x)).1 none (Pt.get ((.ints .u64 5))) = some (field_Elem_Least x) := by
  intro x; kernel_rfl
theorem s_field_Elem_Least {w0 : World}  (h60 : SoundAt Tryd.prog w0 60 ct_field_Elem_light) : SoundAt Tryd.prog w0 42 ct_field_Elem_Least := by
  have hcs : ∀ x ∈ cs_field_Elem_Least, SoundAt Tryd.prog w0 x.1 x.2 := by
    intro x hx
    simp only [cs_field_Elem_Least, List.mem_cons, List.not_mem_nil, or_false] at hx
    rcases hx with rfl
    · exact h60
  exact sound_tct (fn_printed hcs (glob_nil _ _) Tryd.func42 (by kernel_rfl) (by kernel_rfl) (S := 0) (fun w _ => loopsOK_nil _) (fun _ => rfl) (r_field_Elem_Least)) fun _ _ => rfl
theorem k_field_Elem_Least {w0 : World}  : SoundAt Tryd.prog w0 42 ct_field_Elem_Least :=
  s_field_Elem_Least (k_field_Elem_light)

def ct_field_Elem_slim : Ct := tct (.one (.ints .u64 5)) .bool fun x => field_Elem_slim x
def cs_field_Elem_slim : List (FuncId × Ct) := []
def gs_field_Elem_slim : List Gv := []
noncomputable def ls_field_Elem_slim : List (Nat × Lf) := []
theorem r_field_Elem_slim : ∀ x, run Tryd.prog (fun g => lkG g (cs_field_Elem_slim)) (glAt gs_field_Elem_slim 0) (gs_field_Elem_slim.length + 0) (memAt gs_field_Elem_slim 0 ++ (unc gs_field_Elem_slim.length (Ag.mk ((.one (.ints .u64 5))) x)).2) (fun i => lkL i (ls_field_Elem_slim)) 100 Tryd.f45 (unc gs_field_Elem_slim.length (Ag.mk ((.one (.ints .u64 5))) x)).1 none (Pt.get (.bool)) = some (field_Elem_slim x) := by
  intro x; kernel_rfl
theorem s_field_Elem_slim {w0 : World}  : SoundAt Tryd.prog w0 45 ct_field_Elem_slim := by
  have hcs : ∀ x ∈ cs_field_Elem_slim, SoundAt Tryd.prog w0 x.1 x.2 := by
    intro x hx
    simp [cs_field_Elem_slim] at hx
  exact sound_tct (fn_printed hcs (glob_nil _ _) Tryd.func45 (by kernel_rfl) (by kernel_rfl) (S := 0) (fun w _ => loopsOK_nil _) (fun _ => rfl) (r_field_Elem_slim)) fun _ _ => rfl
theorem k_field_Elem_slim {w0 : World}  : SoundAt Tryd.prog w0 45 ct_field_Elem_slim :=
  s_field_Elem_slim

def ct_field_last : Ct := tct (.cons (.int .u64) (.cons (.int .u64) (.cons (.int .u64) (.cons (.int .u64) (.one (.int .u64)))))) (.ints .u64 5) fun x => field_last x.1 x.2.1 x.2.2.1 x.2.2.2.1 x.2.2.2.2
def cs_field_last : List (FuncId × Ct) := []
def gs_field_last : List Gv := []
noncomputable def ls_field_last : List (Nat × Lf) := []
theorem r_field_last : ∀ x, run Tryd.prog (fun g => lkG g (cs_field_last)) (glAt gs_field_last 0) (gs_field_last.length + 0) (memAt gs_field_last 0 ++ (unc gs_field_last.length (Ag.mk ((.cons (.int .u64) (.cons (.int .u64) (.cons (.int .u64) (.cons (.int .u64) (.one (.int .u64))))))) x)).2) (fun i => lkL i (ls_field_last)) 100 Tryd.f64 (unc gs_field_last.length (Ag.mk ((.cons (.int .u64) (.cons (.int .u64) (.cons (.int .u64) (.cons (.int .u64) (.one (.int .u64))))))) x)).1 none (Pt.get ((.ints .u64 5))) = some (field_last x.1 x.2.1 x.2.2.1 x.2.2.2.1 x.2.2.2.2) := by
  intro x; kernel_rfl
theorem s_field_last {w0 : World}  : SoundAt Tryd.prog w0 64 ct_field_last := by
  have hcs : ∀ x ∈ cs_field_last, SoundAt Tryd.prog w0 x.1 x.2 := by
    intro x hx
    simp [cs_field_last] at hx
  exact sound_tct (fn_printed hcs (glob_nil _ _) Tryd.func64 (by kernel_rfl) (by kernel_rfl) (S := 0) (fun w _ => loopsOK_nil _) (fun _ => rfl) (r_field_last)) fun _ _ => rfl
theorem k_field_last {w0 : World}  : SoundAt Tryd.prog w0 64 ct_field_last :=
  s_field_last

def ct_field_closed : Ct := tct (.cons (.int .u64) (.cons (.int .u64) (.cons (.int .u64) (.cons (.int .u64) (.one (.int .u64)))))) (.ints .u64 5) fun x => field_closed x.1 x.2.1 x.2.2.1 x.2.2.2.1 x.2.2.2.2
def cs_field_closed : List (FuncId × Ct) := [(64, ct_field_last)]
def gs_field_closed : List Gv := []
noncomputable def ls_field_closed : List (Nat × Lf) := []
theorem r_field_closed : ∀ x, run Tryd.prog (fun g => lkG g (cs_field_closed)) (glAt gs_field_closed 0) (gs_field_closed.length + 0) (memAt gs_field_closed 0 ++ (unc gs_field_closed.length (Ag.mk ((.cons (.int .u64) (.cons (.int .u64) (.cons (.int .u64) (.cons (.int .u64) (.one (.int .u64))))))) x)).2) (fun i => lkL i (ls_field_closed)) 100 Tryd.f48 (unc gs_field_closed.length (Ag.mk ((.cons (.int .u64) (.cons (.int .u64) (.cons (.int .u64) (.cons (.int .u64) (.one (.int .u64))))))) x)).1 none (Pt.get ((.ints .u64 5))) = field_closed_o x.1 x.2.1 x.2.2.1 x.2.2.2.1 x.2.2.2.2 := by
  intro x; kernel_rfl
theorem s_field_closed {w0 : World}  (h64 : SoundAt Tryd.prog w0 64 ct_field_last) : SoundAt Tryd.prog w0 48 ct_field_closed := by
  have hcs : ∀ x ∈ cs_field_closed, SoundAt Tryd.prog w0 x.1 x.2 := by
    intro x hx
    simp only [cs_field_closed, List.mem_cons, List.not_mem_nil, or_false] at hx
    rcases hx with rfl
    · exact h64
  exact sound_tct (fn_printed hcs (glob_nil _ _) Tryd.func48 (by kernel_rfl) (by kernel_rfl) (S := 0) (fun w _ => loopsOK_nil _) (fun _ => rfl) (r_field_closed)) fun _ _ => field_closed_tot _ _ _ _ _
theorem k_field_closed {w0 : World}  : SoundAt Tryd.prog w0 48 ct_field_closed :=
  s_field_closed (k_field_last)

def ct_field_Elem_Add : Ct := tct (.cons (.ints .u64 5) (.one (.ints .u64 5))) (.ints .u64 5) fun x => field_Elem_Add x.1 x.2
def cs_field_Elem_Add : List (FuncId × Ct) := [(42, ct_field_Elem_Least), (45, ct_field_Elem_slim), (48, ct_field_closed)]
def gs_field_Elem_Add : List Gv := []
noncomputable def ls_field_Elem_Add : List (Nat × Lf) := []
theorem r_field_Elem_Add : ∀ x, run Tryd.prog (fun g => lkG g (cs_field_Elem_Add)) (glAt gs_field_Elem_Add 0) (gs_field_Elem_Add.length + 0) (memAt gs_field_Elem_Add 0 ++ (unc gs_field_Elem_Add.length (Ag.mk ((.cons (.ints .u64 5) (.one (.ints .u64 5)))) x)).2) (fun i => lkL i (ls_field_Elem_Add)) 100 Tryd.f24 (unc gs_field_Elem_Add.length (Ag.mk ((.cons (.ints .u64 5) (.one (.ints .u64 5)))) x)).1 none (Pt.get ((.ints .u64 5))) = field_Elem_Add_o x.1 x.2 := by
  intro x; kernel_rfl
theorem s_field_Elem_Add {w0 : World}  (h42 : SoundAt Tryd.prog w0 42 ct_field_Elem_Least) (h45 : SoundAt Tryd.prog w0 45 ct_field_Elem_slim) (h48 : SoundAt Tryd.prog w0 48 ct_field_closed) : SoundAt Tryd.prog w0 24 ct_field_Elem_Add := by
  have hcs : ∀ x ∈ cs_field_Elem_Add, SoundAt Tryd.prog w0 x.1 x.2 := by
    intro x hx
    simp only [cs_field_Elem_Add, List.mem_cons, List.not_mem_nil, or_false] at hx
    rcases hx with rfl | rfl | rfl
    · exact h42
    · exact h45
    · exact h48
  exact sound_tct (fn_printed hcs (glob_nil _ _) Tryd.func24 (by kernel_rfl) (by kernel_rfl) (S := 0) (fun w _ => loopsOK_nil _) (fun _ => rfl) (r_field_Elem_Add)) fun _ _ => field_Elem_Add_tot _ _
theorem k_field_Elem_Add {w0 : World}  : SoundAt Tryd.prog w0 24 ct_field_Elem_Add :=
  s_field_Elem_Add (k_field_Elem_Least) (k_field_Elem_slim) (k_field_closed)

def ct_field_Elem_Sub : Ct := tct (.cons (.ints .u64 5) (.one (.ints .u64 5))) (.ints .u64 5) fun x => field_Elem_Sub x.1 x.2
def cs_field_Elem_Sub : List (FuncId × Ct) := [(42, ct_field_Elem_Least), (45, ct_field_Elem_slim), (48, ct_field_closed)]
def gs_field_Elem_Sub : List Gv := []
noncomputable def ls_field_Elem_Sub : List (Nat × Lf) := []
theorem r_field_Elem_Sub : ∀ x, run Tryd.prog (fun g => lkG g (cs_field_Elem_Sub)) (glAt gs_field_Elem_Sub 0) (gs_field_Elem_Sub.length + 0) (memAt gs_field_Elem_Sub 0 ++ (unc gs_field_Elem_Sub.length (Ag.mk ((.cons (.ints .u64 5) (.one (.ints .u64 5)))) x)).2) (fun i => lkL i (ls_field_Elem_Sub)) 100 Tryd.f25 (unc gs_field_Elem_Sub.length (Ag.mk ((.cons (.ints .u64 5) (.one (.ints .u64 5)))) x)).1 none (Pt.get ((.ints .u64 5))) = field_Elem_Sub_o x.1 x.2 := by
  intro x; kernel_rfl
theorem s_field_Elem_Sub {w0 : World}  (h42 : SoundAt Tryd.prog w0 42 ct_field_Elem_Least) (h45 : SoundAt Tryd.prog w0 45 ct_field_Elem_slim) (h48 : SoundAt Tryd.prog w0 48 ct_field_closed) : SoundAt Tryd.prog w0 25 ct_field_Elem_Sub := by
  have hcs : ∀ x ∈ cs_field_Elem_Sub, SoundAt Tryd.prog w0 x.1 x.2 := by
    intro x hx
    simp only [cs_field_Elem_Sub, List.mem_cons, List.not_mem_nil, or_false] at hx
    rcases hx with rfl | rfl | rfl
    · exact h42
    · exact h45
    · exact h48
  exact sound_tct (fn_printed hcs (glob_nil _ _) Tryd.func25 (by kernel_rfl) (by kernel_rfl) (S := 0) (fun w _ => loopsOK_nil _) (fun _ => rfl) (r_field_Elem_Sub)) fun _ _ => field_Elem_Sub_tot _ _
theorem k_field_Elem_Sub {w0 : World}  : SoundAt Tryd.prog w0 25 ct_field_Elem_Sub :=
  s_field_Elem_Sub (k_field_Elem_Least) (k_field_Elem_slim) (k_field_closed)

def ct_field_Elem_Neg : Ct := tct (.one (.ints .u64 5)) (.ints .u64 5) fun x => field_Elem_Neg x
def cs_field_Elem_Neg : List (FuncId × Ct) := [(25, ct_field_Elem_Sub)]
def gs_field_Elem_Neg : List Gv := []
noncomputable def ls_field_Elem_Neg : List (Nat × Lf) := []
theorem r_field_Elem_Neg : ∀ x, run Tryd.prog (fun g => lkG g (cs_field_Elem_Neg)) (glAt gs_field_Elem_Neg 0) (gs_field_Elem_Neg.length + 0) (memAt gs_field_Elem_Neg 0 ++ (unc gs_field_Elem_Neg.length (Ag.mk ((.one (.ints .u64 5))) x)).2) (fun i => lkL i (ls_field_Elem_Neg)) 100 Tryd.f44 (unc gs_field_Elem_Neg.length (Ag.mk ((.one (.ints .u64 5))) x)).1 none (Pt.get ((.ints .u64 5))) = some (field_Elem_Neg x) := by
  intro x; kernel_rfl
theorem s_field_Elem_Neg {w0 : World}  (h25 : SoundAt Tryd.prog w0 25 ct_field_Elem_Sub) : SoundAt Tryd.prog w0 44 ct_field_Elem_Neg := by
  have hcs : ∀ x ∈ cs_field_Elem_Neg, SoundAt Tryd.prog w0 x.1 x.2 := by
    intro x hx
    simp only [cs_field_Elem_Neg, List.mem_cons, List.not_mem_nil, or_false] at hx
    rcases hx with rfl
    · exact h25
  exact sound_tct (fn_printed hcs (glob_nil _ _) Tryd.func44 (by kernel_rfl) (by kernel_rfl) (S := 0) (fun w _ => loopsOK_nil _) (fun _ => rfl) (r_field_Elem_Neg)) fun _ _ => rfl
theorem k_field_Elem_Neg {w0 : World}  : SoundAt Tryd.prog w0 44 ct_field_Elem_Neg :=
  s_field_Elem_Neg (k_field_Elem_Sub)

def ct_bits_Mul64 : Ct := tct (.cons (.int .u64) (.one (.int .u64))) (.tup (.cons (.int .u64) (.one (.int .u64)))) fun x => bits_Mul64 x.1 x.2
def cs_bits_Mul64 : List (FuncId × Ct) := []
def gs_bits_Mul64 : List Gv := []
noncomputable def ls_bits_Mul64 : List (Nat × Lf) := []
theorem r_bits_Mul64 : ∀ x, run Tryd.prog (fun g => lkG g (cs_bits_Mul64)) (glAt gs_bits_Mul64 0) (gs_bits_Mul64.length + 0) (memAt gs_bits_Mul64 0 ++ (unc gs_bits_Mul64.length (Ag.mk ((.cons (.int .u64) (.one (.int .u64)))) x)).2) (fun i => lkL i (ls_bits_Mul64)) 100 Tryd.f61 (unc gs_bits_Mul64.length (Ag.mk ((.cons (.int .u64) (.one (.int .u64)))) x)).1 none (Pt.get ((.tup (.cons (.int .u64) (.one (.int .u64)))))) = some (bits_Mul64 x.1 x.2) := by
  intro x; kernel_rfl
theorem s_bits_Mul64 {w0 : World}  : SoundAt Tryd.prog w0 61 ct_bits_Mul64 := by
  have hcs : ∀ x ∈ cs_bits_Mul64, SoundAt Tryd.prog w0 x.1 x.2 := by
    intro x hx
    simp [cs_bits_Mul64] at hx
  exact sound_tct (fn_printed hcs (glob_nil _ _) Tryd.func61 (by kernel_rfl) (by kernel_rfl) (S := 0) (fun w _ => loopsOK_nil _) (fun _ => rfl) (r_bits_Mul64)) fun _ _ => rfl
theorem k_bits_Mul64 {w0 : World}  : SoundAt Tryd.prog w0 61 ct_bits_Mul64 :=
  s_bits_Mul64

def ct_field_double_plus : Ct := fct (.cons (.agg (.cons (.int .u64) (.one (.int .u64)))) (.cons (.int .u64) (.one (.int .u64)))) (.agg (.cons (.int .u64) (.one (.int .u64)))) fun x => field_double_plus x.1 x.2.1 x.2.2
def cs_field_double_plus : List (FuncId × Ct) := [(61, ct_bits_Mul64), (62, ct_bits_Add64)]
def gs_field_double_plus : List Gv := []
noncomputable def ls_field_double_plus : List (Nat × Lf) := []
theorem r_field_double_plus : ∀ x, run Tryd.prog (fun g => lkG g (cs_field_double_plus)) (glAt gs_field_double_plus 0) (gs_field_double_plus.length + 0) (memAt gs_field_double_plus 0 ++ (unc gs_field_double_plus.length (Ag.mk ((.cons (.agg (.cons (.int .u64) (.one (.int .u64)))) (.cons (.int .u64) (.one (.int .u64))))) x)).2) (fun i => lkL i (ls_field_double_plus)) 100 Tryd.f46 (unc gs_field_double_plus.length (Ag.mk ((.cons (.agg (.cons (.int .u64) (.one (.int .u64)))) (.cons (.int .u64) (.one (.int .u64))))) x)).1 none (Pt.get ((.agg (.cons (.int .u64) (.one (.int .u64)))))) = field_double_plus x.1 x.2.1 x.2.2 := by
  intro x; kernel_rfl
theorem s_field_double_plus {w0 : World}  (h61 : SoundAt Tryd.prog w0 61 ct_bits_Mul64) (h62 : SoundAt Tryd.prog w0 62 ct_bits_Add64) : SoundAt Tryd.prog w0 46 ct_field_double_plus := by
  have hcs : ∀ x ∈ cs_field_double_plus, SoundAt Tryd.prog w0 x.1 x.2 := by
    intro x hx
    simp only [cs_field_double_plus, List.mem_cons, List.not_mem_nil, or_false] at hx
    rcases hx with rfl | rfl
    · exact h61
    · exact h62
  exact fn_printed hcs (glob_nil _ _) Tryd.func46 (by kernel_rfl) (by kernel_rfl) (S := 0) (fun w _ => loopsOK_nil _) (fun _ => rfl) (r_field_double_plus)
theorem k_field_double_plus {w0 : World}  : SoundAt Tryd.prog w0 46 ct_field_double_plus :=
  s_field_double_plus (k_bits_Mul64) (k_bits_Add64)

def ct_field_double_over : Ct := tct (.one (.agg (.cons (.int .u64) (.one (.int .u64))))) (.int .u64) fun x => field_double_over x
def cs_field_double_over : List (FuncId × Ct) := []
def gs_field_double_over : List Gv := []
noncomputable def ls_field_double_over : List (Nat × Lf) := []
theorem r_field_double_over : ∀ x, run Tryd.prog (fun g => lkG g (cs_field_double_over)) (glAt gs_field_double_over 0) (gs_field_double_over.length + 0) (memAt gs_field_double_over 0 ++ (unc gs_field_double_over.length (Ag.mk ((.one (.agg (.cons (.int .u64) (.one (.int .u64)))))) x)).2) (fun i => lkL i (ls_field_double_over)) 100 Tryd.f63 (unc gs_field_double_over.length (Ag.mk ((.one (.agg (.cons (.int .u64) (.one (.int .u64)))))) x)).1 none (Pt.get ((.int .u64))) = some (field_double_over x) := by
  intro x; kernel_rfl
theorem s_field_double_over {w0 : World}  : SoundAt Tryd.prog w0 63 ct_field_double_over := by
  have hcs : ∀ x ∈ cs_field_double_over, SoundAt Tryd.prog w0 x.1 x.2 := by
    intro x hx
    simp [cs_field_double_over] at hx
  exact sound_tct (fn_printed hcs (glob_nil _ _) Tryd.func63 (by kernel_rfl) (by kernel_rfl) (S := 0) (fun w _ => loopsOK_nil _) (fun _ => rfl) (r_field_double_over)) fun _ _ => rfl
theorem k_field_double_over {w0 : World}  : SoundAt Tryd.prog w0 63 ct_field_double_over :=
  s_field_double_over

def ct_field_carried : Ct := fct (.cons (.agg (.cons (.int .u64) (.one (.int .u64)))) (.cons (.agg (.cons (.int .u64) (.one (.int .u64)))) (.cons (.agg (.cons (.int .u64) (.one (.int .u64)))) (.cons (.agg (.cons (.int .u64) (.one (.int .u64)))) (.one (.agg (.cons (.int .u64) (.one (.int .u64))))))))) (.ints .u64 5) fun x => field_carried x.1 x.2.1 x.2.2.1 x.2.2.2.1 x.2.2.2.2
def cs_field_carried : List (FuncId × Ct) := [(46, ct_field_double_plus), (48, ct_field_closed), (63, ct_field_double_over)]
def gs_field_carried : List Gv := []
noncomputable def ls_field_carried : List (Nat × Lf) := []
theorem r_field_carried : ∀ x, run Tryd.prog (fun g => lkG g (cs_field_carried)) (glAt gs_field_carried 0) (gs_field_carried.length + 0) (memAt gs_field_carried 0 ++ (unc gs_field_carried.length (Ag.mk ((.cons (.agg (.cons (.int .u64) (.one (.int .u64)))) (.cons (.agg (.cons (.int .u64) (.one (.int .u64)))) (.cons (.agg (.cons (.int .u64) (.one (.int .u64)))) (.cons (.agg (.cons (.int .u64) (.one (.int .u64)))) (.one (.agg (.cons (.int .u64) (.one (.int .u64)))))))))) x)).2) (fun i => lkL i (ls_field_carried)) 100 Tryd.f47 (unc gs_field_carried.length (Ag.mk ((.cons (.agg (.cons (.int .u64) (.one (.int .u64)))) (.cons (.agg (.cons (.int .u64) (.one (.int .u64)))) (.cons (.agg (.cons (.int .u64) (.one (.int .u64)))) (.cons (.agg (.cons (.int .u64) (.one (.int .u64)))) (.one (.agg (.cons (.int .u64) (.one (.int .u64)))))))))) x)).1 none (Pt.get ((.ints .u64 5))) = field_carried x.1 x.2.1 x.2.2.1 x.2.2.2.1 x.2.2.2.2 := by
  intro x; kernel_rfl
theorem s_field_carried {w0 : World}  (h46 : SoundAt Tryd.prog w0 46 ct_field_double_plus) (h48 : SoundAt Tryd.prog w0 48 ct_field_closed) (h63 : SoundAt Tryd.prog w0 63 ct_field_double_over) : SoundAt Tryd.prog w0 47 ct_field_carried := by
  have hcs : ∀ x ∈ cs_field_carried, SoundAt Tryd.prog w0 x.1 x.2 := by
    intro x hx
    simp only [cs_field_carried, List.mem_cons, List.not_mem_nil, or_false] at hx
    rcases hx with rfl | rfl | rfl
    · exact h46
    · exact h48
    · exact h63
  exact fn_printed hcs (glob_nil _ _) Tryd.func47 (by kernel_rfl) (by kernel_rfl) (S := 0) (fun w _ => loopsOK_nil _) (fun _ => rfl) (r_field_carried)
theorem k_field_carried {w0 : World}  : SoundAt Tryd.prog w0 47 ct_field_carried :=
  s_field_carried (k_field_double_plus) (k_field_closed) (k_field_double_over)

def ct_field_Elem_Mul : Ct := fct (.cons (.ints .u64 5) (.one (.ints .u64 5))) (.ints .u64 5) fun x => field_Elem_Mul x.1 x.2
def cs_field_Elem_Mul : List (FuncId × Ct) := [(42, ct_field_Elem_Least), (45, ct_field_Elem_slim), (46, ct_field_double_plus), (47, ct_field_carried)]
def gs_field_Elem_Mul : List Gv := []
noncomputable def ls_field_Elem_Mul : List (Nat × Lf) := []
theorem r_field_Elem_Mul : ∀ x, run Tryd.prog (fun g => lkG g (cs_field_Elem_Mul)) (glAt gs_field_Elem_Mul 0) (gs_field_Elem_Mul.length + 0) (memAt gs_field_Elem_Mul 0 ++ (unc gs_field_Elem_Mul.length (Ag.mk ((.cons (.ints .u64 5) (.one (.ints .u64 5)))) x)).2) (fun i => lkL i (ls_field_Elem_Mul)) 100 Tryd.f22 (unc gs_field_Elem_Mul.length (Ag.mk ((.cons (.ints .u64 5) (.one (.ints .u64 5)))) x)).1 none (Pt.get ((.ints .u64 5))) = field_Elem_Mul x.1 x.2 := by
  intro x; kernel_rfl
theorem s_field_Elem_Mul {w0 : World}  (h42 : SoundAt Tryd.prog w0 42 ct_field_Elem_Least) (h45 : SoundAt Tryd.prog w0 45 ct_field_Elem_slim) (h46 : SoundAt Tryd.prog w0 46 ct_field_double_plus) (h47 : SoundAt Tryd.prog w0 47 ct_field_carried) : SoundAt Tryd.prog w0 22 ct_field_Elem_Mul := by
  have hcs : ∀ x ∈ cs_field_Elem_Mul, SoundAt Tryd.prog w0 x.1 x.2 := by
    intro x hx
    simp only [cs_field_Elem_Mul, List.mem_cons, List.not_mem_nil, or_false] at hx
    rcases hx with rfl | rfl | rfl | rfl
    · exact h42
    · exact h45
    · exact h46
    · exact h47
  exact fn_printed hcs (glob_nil _ _) Tryd.func22 (by kernel_rfl) (by kernel_rfl) (S := 0) (fun w _ => loopsOK_nil _) (fun _ => rfl) (r_field_Elem_Mul)
theorem k_field_Elem_Mul {w0 : World}  : SoundAt Tryd.prog w0 22 ct_field_Elem_Mul :=
  s_field_Elem_Mul (k_field_Elem_Least) (k_field_Elem_slim) (k_field_double_plus) (k_field_carried)

def ct_field_Elem_Square : Ct := fct (.one (.ints .u64 5)) (.ints .u64 5) fun x => field_Elem_Square x
def cs_field_Elem_Square : List (FuncId × Ct) := [(42, ct_field_Elem_Least), (45, ct_field_Elem_slim), (46, ct_field_double_plus), (47, ct_field_carried)]
def gs_field_Elem_Square : List Gv := []
noncomputable def ls_field_Elem_Square : List (Nat × Lf) := []
theorem r_field_Elem_Square : ∀ x, run Tryd.prog (fun g => lkG g (cs_field_Elem_Square)) (glAt gs_field_Elem_Square 0) (gs_field_Elem_Square.length + 0) (memAt gs_field_Elem_Square 0 ++ (unc gs_field_Elem_Square.length (Ag.mk ((.one (.ints .u64 5))) x)).2) (fun i => lkL i (ls_field_Elem_Square)) 100 Tryd.f32 (unc gs_field_Elem_Square.length (Ag.mk ((.one (.ints .u64 5))) x)).1 none (Pt.get ((.ints .u64 5))) = field_Elem_Square x := by
  intro x; kernel_rfl
theorem s_field_Elem_Square {w0 : World}  (h42 : SoundAt Tryd.prog w0 42 ct_field_Elem_Least) (h45 : SoundAt Tryd.prog w0 45 ct_field_Elem_slim) (h46 : SoundAt Tryd.prog w0 46 ct_field_double_plus) (h47 : SoundAt Tryd.prog w0 47 ct_field_carried) : SoundAt Tryd.prog w0 32 ct_field_Elem_Square := by
  have hcs : ∀ x ∈ cs_field_Elem_Square, SoundAt Tryd.prog w0 x.1 x.2 := by
    intro x hx
    simp only [cs_field_Elem_Square, List.mem_cons, List.not_mem_nil, or_false] at hx
    rcases hx with rfl | rfl | rfl | rfl
    · exact h42
    · exact h45
    · exact h46
    · exact h47
  exact fn_printed hcs (glob_nil _ _) Tryd.func32 (by kernel_rfl) (by kernel_rfl) (S := 0) (fun w _ => loopsOK_nil _) (fun _ => rfl) (r_field_Elem_Square)
theorem k_field_Elem_Square {w0 : World}  : SoundAt Tryd.prog w0 32 ct_field_Elem_Square :=
  s_field_Elem_Square (k_field_Elem_Least) (k_field_Elem_slim) (k_field_double_plus) (k_field_carried)

def ct_field_load : Ct := tct (.one (.ints .u8 32)) (.ints .u64 5) fun x => field_load x
def cs_field_load : List (FuncId × Ct) := []
def gs_field_load : List Gv := []
noncomputable def ls_field_load : List (Nat × Lf) := []
theorem r_field_load : ∀ x, run Tryd.prog (fun g => lkG g (cs_field_load)) (glAt gs_field_load 0) (gs_field_load.length + 0) (memAt gs_field_load 0 ++ (unc gs_field_load.length (Ag.mk ((.one (.ints .u8 32))) x)).2) (fun i => lkL i (ls_field_load)) 100 Tryd.f53 (unc gs_field_load.length (Ag.mk ((.one (.ints .u8 32))) x)).1 none (Pt.get ((.ints .u64 5))) = some (field_load x) := by
  intro x; kernel_rfl
theorem s_field_load {w0 : World}  : SoundAt Tryd.prog w0 53 ct_field_load := by
  have hcs : ∀ x ∈ cs_field_load, SoundAt Tryd.prog w0 x.1 x.2 := by
    intro x hx
    simp [cs_field_load] at hx
  exact sound_tct (fn_printed hcs (glob_nil _ _) Tryd.func53 (by kernel_rfl) (by kernel_rfl) (S := 0) (fun w _ => loopsOK_nil _) (fun _ => rfl) (r_field_load)) fun _ _ => rfl
theorem k_field_load {w0 : World}  : SoundAt Tryd.prog w0 53 ct_field_load :=
  s_field_load

def ct_field_Decode : Ct := tct (.one (.ints .u8 32)) (.tup (.cons (.ints .u64 5) (.one (.int .i64)))) fun x => field_Decode x
def cs_field_Decode : List (FuncId × Ct) := [(42, ct_field_Elem_Least), (53, ct_field_load)]
def gs_field_Decode : List Gv := []
noncomputable def ls_field_Decode : List (Nat × Lf) := []
theorem r_field_Decode : ∀ x, run Tryd.prog (fun g => lkG g (cs_field_Decode)) (glAt gs_field_Decode 0) (gs_field_Decode.length + 0) (memAt gs_field_Decode 0 ++ (unc gs_field_Decode.length (Ag.mk ((.one (.ints .u8 32))) x)).2) (fun i => lkL i (ls_field_Decode)) 100 Tryd.f31 (unc gs_field_Decode.length (Ag.mk ((.one (.ints .u8 32))) x)).1 none (Pt.get ((.tup (.cons (.ints .u64 5) (.one (.int .i64)))))) = field_Decode_o x := by
  intro x; kernel_rfl
theorem s_field_Decode {w0 : World}  (h42 : SoundAt Tryd.prog w0 42 ct_field_Elem_Least) (h53 : SoundAt Tryd.prog w0 53 ct_field_load) : SoundAt Tryd.prog w0 31 ct_field_Decode := by
  have hcs : ∀ x ∈ cs_field_Decode, SoundAt Tryd.prog w0 x.1 x.2 := by
    intro x hx
    simp only [cs_field_Decode, List.mem_cons, List.not_mem_nil, or_false] at hx
    rcases hx with rfl | rfl
    · exact h42
    · exact h53
  exact sound_tct (fn_printed hcs (glob_nil _ _) Tryd.func31 (by kernel_rfl) (by kernel_rfl) (S := 0) (fun w _ => loopsOK_nil _) (fun _ => rfl) (r_field_Decode)) fun _ _ => field_Decode_tot _
theorem k_field_Decode {w0 : World}  : SoundAt Tryd.prog w0 31 ct_field_Decode :=
  s_field_Decode (k_field_Elem_Least) (k_field_load)

def ct_field_Elem_Encode : Ct := tct (.one (.ints .u64 5)) (.ints .u8 32) fun x => field_Elem_Encode x
def cs_field_Elem_Encode : List (FuncId × Ct) := [(42, ct_field_Elem_Least)]
def gs_field_Elem_Encode : List Gv := []
noncomputable def ls_field_Elem_Encode : List (Nat × Lf) := []
theorem r_field_Elem_Encode : ∀ x, run Tryd.prog (fun g => lkG g (cs_field_Elem_Encode)) (glAt gs_field_Elem_Encode 0) (gs_field_Elem_Encode.length + 0) (memAt gs_field_Elem_Encode 0 ++ (unc gs_field_Elem_Encode.length (Ag.mk ((.one (.ints .u64 5))) x)).2) (fun i => lkL i (ls_field_Elem_Encode)) 100 Tryd.f30 (unc gs_field_Elem_Encode.length (Ag.mk ((.one (.ints .u64 5))) x)).1 none (Pt.get ((.ints .u8 32))) = some (field_Elem_Encode x) := by
  intro x; kernel_rfl
theorem s_field_Elem_Encode {w0 : World}  (h42 : SoundAt Tryd.prog w0 42 ct_field_Elem_Least) : SoundAt Tryd.prog w0 30 ct_field_Elem_Encode := by
  have hcs : ∀ x ∈ cs_field_Elem_Encode, SoundAt Tryd.prog w0 x.1 x.2 := by
    intro x hx
    simp only [cs_field_Elem_Encode, List.mem_cons, List.not_mem_nil, or_false] at hx
    rcases hx with rfl
    · exact h42
  exact sound_tct (fn_printed hcs (glob_nil _ _) Tryd.func30 (by kernel_rfl) (by kernel_rfl) (S := 0) (fun w _ => loopsOK_nil _) (fun _ => rfl) (r_field_Elem_Encode)) fun _ _ => rfl
theorem k_field_Elem_Encode {w0 : World}  : SoundAt Tryd.prog w0 30 ct_field_Elem_Encode :=
  s_field_Elem_Encode (k_field_Elem_Least)

def ct_field_Elem_squares (N : Nat) : Ct := fct (.cons (.ints .u64 5) (.one (.int .i64))) (.ints .u64 5) fun x => field_Elem_squares N x.1 x.2
def cs_field_Elem_squares (N : Nat) : List (FuncId × Ct) := [(32, ct_field_Elem_Square)]
def gs_field_Elem_squares : List Gv := []
def field_Elem_squares_l0_H : Fm ((Unit × Unit × Int × Int)) ((List Int × Unit)) := ⟨(.cons 2 (.lit (.ptr 0 [] 28)) (.cons 4 (.lit (.ptr 1 [] 28)) (.cons 5 (.int .i64) (.one 6 (.int .i64))))), (.cons 0 (.ints .u64 5) (.one 1 (.lit (.ints .u64 5 [0, 0, 0, 0, 0]))))⟩
def field_Elem_squares_l0_O : Fm ((Unit × Unit)) ((List Int × Unit)) := ⟨(.cons 2 (.lit (.ptr 0 [] 28)) (.one 4 (.lit (.ptr 1 [] 28)))), (.cons 0 (.ints .u64 5) (.one 1 (.lit (.ints .u64 5 [0, 0, 0, 0, 0]))))⟩
def field_Elem_squares_l0_T : Fm (Unit) (Unit) := ⟨.nil, .nil⟩
noncomputable def ls_field_Elem_squares (N : Nat) : List (Nat × Lf) := [(0, loopCt field_Elem_squares_l0_H field_Elem_squares_l0_O field_Elem_squares_l0_T 4 (field_Elem_squares_l0 N) N)]
theorem field_Elem_squares_l0_step (N : Nat) : ∀ v, exec Tryd.prog (cxOf Tryd.f59 (cs_field_Elem_squares N) gs_field_Elem_squares 0) (fun i => lkL i (ls_field_Elem_squares N)) 100 none (loopBody Tryd.f59 0) (field_Elem_squares_l0_H.st 4 v) (rdEnd field_Elem_squares_l0_H field_Elem_squares_l0_O field_Elem_squares_l0_T 4 0) = field_Elem_squares_l0 N v := by
  intro v; kernel_rfl
theorem r_field_Elem_squares (N : Nat) : ∀ x, run Tryd.prog (fun g => lkG g (cs_field_Elem_squares N)) (glAt gs_field_Elem_squares 0) (gs_field_Elem_squares.length + 0) (memAt gs_field_Elem_squares 0 ++ (unc gs_field_Elem_squares.length (Ag.mk ((.cons (.ints .u64 5) (.one (.int .i64)))) x)).2) (fun i => lkL i (ls_field_Elem_squares N)) 100 Tryd.f59 (unc gs_field_Elem_squares.length (Ag.mk ((.cons (.ints .u64 5) (.one (.int .i64)))) x)).1 none (Pt.get ((.ints .u64 5))) = field_Elem_squares N x.1 x.2 := by
  intro x; kernel_rfl
theorem s_field_Elem_squares {w0 : World} (N : Nat)  (h32 : SoundAt Tryd.prog w0 32 ct_field_Elem_Square) : SoundAt Tryd.prog w0 59 (ct_field_Elem_squares N) := by
  have hcs : ∀ x ∈ cs_field_Elem_squares N, SoundAt Tryd.prog w0 x.1 x.2 := by
    intro x hx
    simp only [cs_field_Elem_squares, List.mem_cons, List.not_mem_nil, or_false] at hx
    rcases hx with rfl
    · exact h32
  have L0 : ∀ w, RowKit.Below w0.heap.size w0 w → LoopOK Tryd.prog (cxOf Tryd.f59 (cs_field_Elem_squares N) gs_field_Elem_squares 0) w 0 (.loop (loopBody Tryd.f59 0)) (loopCt field_Elem_squares_l0_H field_Elem_squares_l0_O field_Elem_squares_l0_T 4 (field_Elem_squares_l0 N) N) :=
    loop_printed hcs (ls := ls_field_Elem_squares N) (n := 100) (by kernel_rfl) (field_Elem_squares_l0_step N) N fun w hw => loopsOK_list (by
      intro x hx
      simp only [ls_field_Elem_squares, List.mem_cons, List.not_mem_nil, or_false] at hx
      rcases hx with rfl
      · exact .inl (by kernel_rfl)
    )
  exact fn_printed hcs (glob_nil _ _) Tryd.func59 (by kernel_rfl) (by kernel_rfl) (S := 0) (fun w hw => loopsOK_list (by
    intro x hx
    simp only [ls_field_Elem_squares, List.mem_cons, List.not_mem_nil, or_false] at hx
    rcases hx with rfl
    · exact .inr ⟨_, by kernel_rfl, L0 w hw⟩
  )) (fun _ => rfl) (r_field_Elem_squares N)
theorem k_field_Elem_squares {w0 : World} (N : Nat)  : SoundAt Tryd.prog w0 59 (ct_field_Elem_squares N) :=
  s_field_Elem_squares N (k_field_Elem_Square)

def ct_field_Elem_ones (N : Nat) : Ct := fct (.one (.ints .u64 5)) (.tup (.cons (.ints .u64 5) (.one (.ints .u64 5)))) fun x => field_Elem_ones N x
def cs_field_Elem_ones (N : Nat) : List (FuncId × Ct) := [(22, ct_field_Elem_Mul), (32, ct_field_Elem_Square), (59, (ct_field_Elem_squares N))]
def gs_field_Elem_ones : List Gv := []
noncomputable def ls_field_Elem_ones (N : Nat) : List (Nat × Lf) := []
theorem r_field_Elem_ones (N : Nat) : ∀ x, run Tryd.prog (fun g => lkG g (cs_field_Elem_ones N)) (glAt gs_field_Elem_ones 0) (gs_field_Elem_ones.length + 0) (memAt gs_field_Elem_ones 0 ++ (unc gs_field_Elem_ones.length (Ag.mk ((.one (.ints .u64 5))) x)).2) (fun i => lkL i (ls_field_Elem_ones N)) 100 Tryd.f58 (unc gs_field_Elem_ones.length (Ag.mk ((.one (.ints .u64 5))) x)).1 none (Pt.get ((.tup (.cons (.ints .u64 5) (.one (.ints .u64 5)))))) = field_Elem_ones N x := by
  intro x; kernel_rfl
theorem s_field_Elem_ones {w0 : World} (N : Nat)  (h22 : SoundAt Tryd.prog w0 22 ct_field_Elem_Mul) (h32 : SoundAt Tryd.prog w0 32 ct_field_Elem_Square) (h59 : SoundAt Tryd.prog w0 59 (ct_field_Elem_squares N)) : SoundAt Tryd.prog w0 58 (ct_field_Elem_ones N) := by
  have hcs : ∀ x ∈ cs_field_Elem_ones N, SoundAt Tryd.prog w0 x.1 x.2 := by
    intro x hx
    simp only [cs_field_Elem_ones, List.mem_cons, List.not_mem_nil, or_false] at hx
    rcases hx with rfl | rfl | rfl
    · exact h22
    · exact h32
    · exact h59
  exact fn_printed hcs (glob_nil _ _) Tryd.func58 (by kernel_rfl) (by kernel_rfl) (S := 0) (fun w _ => loopsOK_nil _) (fun _ => rfl) (r_field_Elem_ones N)
theorem k_field_Elem_ones {w0 : World} (N : Nat)  : SoundAt Tryd.prog w0 58 (ct_field_Elem_ones N) :=
  s_field_Elem_ones N (k_field_Elem_Mul) (k_field_Elem_Square) (k_field_Elem_squares N)

def ct_field_Elem_Invert (N : Nat) : Ct := fct (.one (.ints .u64 5)) (.ints .u64 5) fun x => field_Elem_Invert N x
def cs_field_Elem_Invert (N : Nat) : List (FuncId × Ct) := [(22, ct_field_Elem_Mul), (58, (ct_field_Elem_ones N)), (59, (ct_field_Elem_squares N))]
def gs_field_Elem_Invert : List Gv := []
noncomputable def ls_field_Elem_Invert (N : Nat) : List (Nat × Lf) := []
theorem r_field_Elem_Invert (N : Nat) : ∀ x, run Tryd.prog (fun g => lkG g (cs_field_Elem_Invert N)) (glAt gs_field_Elem_Invert 0) (gs_field_Elem_Invert.length + 0) (memAt gs_field_Elem_Invert 0 ++ (unc gs_field_Elem_Invert.length (Ag.mk ((.one (.ints .u64 5))) x)).2) (fun i => lkL i (ls_field_Elem_Invert N)) 100 Tryd.f41 (unc gs_field_Elem_Invert.length (Ag.mk ((.one (.ints .u64 5))) x)).1 none (Pt.get ((.ints .u64 5))) = field_Elem_Invert N x := by
  intro x; kernel_rfl
theorem s_field_Elem_Invert {w0 : World} (N : Nat)  (h22 : SoundAt Tryd.prog w0 22 ct_field_Elem_Mul) (h58 : SoundAt Tryd.prog w0 58 (ct_field_Elem_ones N)) (h59 : SoundAt Tryd.prog w0 59 (ct_field_Elem_squares N)) : SoundAt Tryd.prog w0 41 (ct_field_Elem_Invert N) := by
  have hcs : ∀ x ∈ cs_field_Elem_Invert N, SoundAt Tryd.prog w0 x.1 x.2 := by
    intro x hx
    simp only [cs_field_Elem_Invert, List.mem_cons, List.not_mem_nil, or_false] at hx
    rcases hx with rfl | rfl | rfl
    · exact h22
    · exact h58
    · exact h59
  exact fn_printed hcs (glob_nil _ _) Tryd.func41 (by kernel_rfl) (by kernel_rfl) (S := 0) (fun w _ => loopsOK_nil _) (fun _ => rfl) (r_field_Elem_Invert N)
theorem k_field_Elem_Invert {w0 : World} (N : Nat)  : SoundAt Tryd.prog w0 41 (ct_field_Elem_Invert N) :=
  s_field_Elem_Invert N (k_field_Elem_Mul) (k_field_Elem_ones N) (k_field_Elem_squares N)

def ct_field_Elem_root (N : Nat) : Ct := fct (.one (.ints .u64 5)) (.ints .u64 5) fun x => field_Elem_root N x
def cs_field_Elem_root (N : Nat) : List (FuncId × Ct) := [(22, ct_field_Elem_Mul), (58, (ct_field_Elem_ones N)), (59, (ct_field_Elem_squares N))]
def gs_field_Elem_root : List Gv := []
noncomputable def ls_field_Elem_root (N : Nat) : List (Nat × Lf) := []
theorem r_field_Elem_root (N : Nat) : ∀ x, run Tryd.prog (fun g => lkG g (cs_field_Elem_root N)) (glAt gs_field_Elem_root 0) (gs_field_Elem_root.length + 0) (memAt gs_field_Elem_root 0 ++ (unc gs_field_Elem_root.length (Ag.mk ((.one (.ints .u64 5))) x)).2) (fun i => lkL i (ls_field_Elem_root N)) 100 Tryd.f54 (unc gs_field_Elem_root.length (Ag.mk ((.one (.ints .u64 5))) x)).1 none (Pt.get ((.ints .u64 5))) = field_Elem_root N x := by
  intro x; kernel_rfl
theorem s_field_Elem_root {w0 : World} (N : Nat)  (h22 : SoundAt Tryd.prog w0 22 ct_field_Elem_Mul) (h58 : SoundAt Tryd.prog w0 58 (ct_field_Elem_ones N)) (h59 : SoundAt Tryd.prog w0 59 (ct_field_Elem_squares N)) : SoundAt Tryd.prog w0 54 (ct_field_Elem_root N) := by
  have hcs : ∀ x ∈ cs_field_Elem_root N, SoundAt Tryd.prog w0 x.1 x.2 := by
    intro x hx
    simp only [cs_field_Elem_root, List.mem_cons, List.not_mem_nil, or_false] at hx
    rcases hx with rfl | rfl | rfl
    · exact h22
    · exact h58
    · exact h59
  exact fn_printed hcs (glob_nil _ _) Tryd.func54 (by kernel_rfl) (by kernel_rfl) (S := 0) (fun w _ => loopsOK_nil _) (fun _ => rfl) (r_field_Elem_root N)
theorem k_field_Elem_root {w0 : World} (N : Nat)  : SoundAt Tryd.prog w0 54 (ct_field_Elem_root N) :=
  s_field_Elem_root N (k_field_Elem_Mul) (k_field_Elem_ones N) (k_field_Elem_squares N)

def ct_field_Elem_One : Ct := tct (.one (.ints .u64 5)) (.ints .u64 5) fun x => field_Elem_One x
def cs_field_Elem_One : List (FuncId × Ct) := []
def gs_field_Elem_One : List Gv := []
noncomputable def ls_field_Elem_One : List (Nat × Lf) := []
theorem r_field_Elem_One : ∀ x, run Tryd.prog (fun g => lkG g (cs_field_Elem_One)) (glAt gs_field_Elem_One 0) (gs_field_Elem_One.length + 0) (memAt gs_field_Elem_One 0 ++ (unc gs_field_Elem_One.length (Ag.mk ((.one (.ints .u64 5))) x)).2) (fun i => lkL i (ls_field_Elem_One)) 100 Tryd.f23 (unc gs_field_Elem_One.length (Ag.mk ((.one (.ints .u64 5))) x)).1 none (Pt.get ((.ints .u64 5))) = some (field_Elem_One x) := by
  intro x; kernel_rfl
theorem s_field_Elem_One {w0 : World}  : SoundAt Tryd.prog w0 23 ct_field_Elem_One := by
  have hcs : ∀ x ∈ cs_field_Elem_One, SoundAt Tryd.prog w0 x.1 x.2 := by
    intro x hx
    simp [cs_field_Elem_One] at hx
  exact sound_tct (fn_printed hcs (glob_nil _ _) Tryd.func23 (by kernel_rfl) (by kernel_rfl) (S := 0) (fun w _ => loopsOK_nil _) (fun _ => rfl) (r_field_Elem_One)) fun _ _ => rfl
theorem k_field_Elem_One {w0 : World}  : SoundAt Tryd.prog w0 23 ct_field_Elem_One :=
  s_field_Elem_One

def ct_field_Elem_IsZero : Ct := tct (.one (.ints .u64 5)) .bool fun x => field_Elem_IsZero x
def cs_field_Elem_IsZero : List (FuncId × Ct) := [(42, ct_field_Elem_Least)]
def gs_field_Elem_IsZero : List Gv := []
noncomputable def ls_field_Elem_IsZero : List (Nat × Lf) := []
theorem r_field_Elem_IsZero : ∀ x, run Tryd.prog (fun g => lkG g (cs_field_Elem_IsZero)) (glAt gs_field_Elem_IsZero 0) (gs_field_Elem_IsZero.length + 0) (memAt gs_field_Elem_IsZero 0 ++ (unc gs_field_Elem_IsZero.length (Ag.mk ((.one (.ints .u64 5))) x)).2) (fun i => lkL i (ls_field_Elem_IsZero)) 100 Tryd.f11 (unc gs_field_Elem_IsZero.length (Ag.mk ((.one (.ints .u64 5))) x)).1 none (Pt.get (.bool)) = some (field_Elem_IsZero x) := by
  intro x; kernel_rfl
theorem s_field_Elem_IsZero {w0 : World}  (h42 : SoundAt Tryd.prog w0 42 ct_field_Elem_Least) : SoundAt Tryd.prog w0 11 ct_field_Elem_IsZero := by
  have hcs : ∀ x ∈ cs_field_Elem_IsZero, SoundAt Tryd.prog w0 x.1 x.2 := by
    intro x hx
    simp only [cs_field_Elem_IsZero, List.mem_cons, List.not_mem_nil, or_false] at hx
    rcases hx with rfl
    · exact h42
  exact sound_tct (fn_printed hcs (glob_nil _ _) Tryd.func11 (by kernel_rfl) (by kernel_rfl) (S := 0) (fun w _ => loopsOK_nil _) (fun _ => rfl) (r_field_Elem_IsZero)) fun _ _ => rfl
theorem k_field_Elem_IsZero {w0 : World}  : SoundAt Tryd.prog w0 11 ct_field_Elem_IsZero :=
  s_field_Elem_IsZero (k_field_Elem_Least)

def ct_field_Elem_Negative : Ct := tct (.one (.ints .u64 5)) .bool fun x => field_Elem_Negative x
def cs_field_Elem_Negative : List (FuncId × Ct) := [(42, ct_field_Elem_Least)]
def gs_field_Elem_Negative : List Gv := []
noncomputable def ls_field_Elem_Negative : List (Nat × Lf) := []
theorem r_field_Elem_Negative : ∀ x, run Tryd.prog (fun g => lkG g (cs_field_Elem_Negative)) (glAt gs_field_Elem_Negative 0) (gs_field_Elem_Negative.length + 0) (memAt gs_field_Elem_Negative 0 ++ (unc gs_field_Elem_Negative.length (Ag.mk ((.one (.ints .u64 5))) x)).2) (fun i => lkL i (ls_field_Elem_Negative)) 100 Tryd.f10 (unc gs_field_Elem_Negative.length (Ag.mk ((.one (.ints .u64 5))) x)).1 none (Pt.get (.bool)) = some (field_Elem_Negative x) := by
  intro x; kernel_rfl
theorem s_field_Elem_Negative {w0 : World}  (h42 : SoundAt Tryd.prog w0 42 ct_field_Elem_Least) : SoundAt Tryd.prog w0 10 ct_field_Elem_Negative := by
  have hcs : ∀ x ∈ cs_field_Elem_Negative, SoundAt Tryd.prog w0 x.1 x.2 := by
    intro x hx
    simp only [cs_field_Elem_Negative, List.mem_cons, List.not_mem_nil, or_false] at hx
    rcases hx with rfl
    · exact h42
  exact sound_tct (fn_printed hcs (glob_nil _ _) Tryd.func10 (by kernel_rfl) (by kernel_rfl) (S := 0) (fun w _ => loopsOK_nil _) (fun _ => rfl) (r_field_Elem_Negative)) fun _ _ => rfl
theorem k_field_Elem_Negative {w0 : World}  : SoundAt Tryd.prog w0 10 ct_field_Elem_Negative :=
  s_field_Elem_Negative (k_field_Elem_Least)

def ct_field_Select : Ct := tct (.cons (.int .i64) (.cons (.ints .u64 5) (.one (.ints .u64 5)))) (.ints .u64 5) fun x => field_Select x.1 x.2.1 x.2.2
def cs_field_Select : List (FuncId × Ct) := [(42, ct_field_Elem_Least)]
def gs_field_Select : List Gv := []
noncomputable def ls_field_Select : List (Nat × Lf) := []
theorem r_field_Select : ∀ x, run Tryd.prog (fun g => lkG g (cs_field_Select)) (glAt gs_field_Select 0) (gs_field_Select.length + 0) (memAt gs_field_Select 0 ++ (unc gs_field_Select.length (Ag.mk ((.cons (.int .i64) (.cons (.ints .u64 5) (.one (.ints .u64 5))))) x)).2) (fun i => lkL i (ls_field_Select)) 100 Tryd.f65 (unc gs_field_Select.length (Ag.mk ((.cons (.int .i64) (.cons (.ints .u64 5) (.one (.ints .u64 5))))) x)).1 none (Pt.get ((.ints .u64 5))) = some (field_Select x.1 x.2.1 x.2.2) := by
  intro x; kernel_rfl
theorem s_field_Select {w0 : World}  (h42 : SoundAt Tryd.prog w0 42 ct_field_Elem_Least) : SoundAt Tryd.prog w0 65 ct_field_Select := by
  have hcs : ∀ x ∈ cs_field_Select, SoundAt Tryd.prog w0 x.1 x.2 := by
    intro x hx
    simp only [cs_field_Select, List.mem_cons, List.not_mem_nil, or_false] at hx
    rcases hx with rfl
    · exact h42
  exact sound_tct (fn_printed hcs (glob_nil _ _) Tryd.func65 (by kernel_rfl) (by kernel_rfl) (S := 0) (fun w _ => loopsOK_nil _) (fun _ => rfl) (r_field_Select)) fun _ _ => rfl
theorem k_field_Select {w0 : World}  : SoundAt Tryd.prog w0 65 ct_field_Select :=
  s_field_Select (k_field_Elem_Least)

def ct_field_Elem_Abs : Ct := tct (.one (.ints .u64 5)) (.ints .u64 5) fun x => field_Elem_Abs x
def cs_field_Elem_Abs : List (FuncId × Ct) := [(42, ct_field_Elem_Least), (44, ct_field_Elem_Neg), (65, ct_field_Select)]
def gs_field_Elem_Abs : List Gv := []
noncomputable def ls_field_Elem_Abs : List (Nat × Lf) := []
theorem r_field_Elem_Abs : ∀ x, run Tryd.prog (fun g => lkG g (cs_field_Elem_Abs)) (glAt gs_field_Elem_Abs 0) (gs_field_Elem_Abs.length + 0) (memAt gs_field_Elem_Abs 0 ++ (unc gs_field_Elem_Abs.length (Ag.mk ((.one (.ints .u64 5))) x)).2) (fun i => lkL i (ls_field_Elem_Abs)) 100 Tryd.f55 (unc gs_field_Elem_Abs.length (Ag.mk ((.one (.ints .u64 5))) x)).1 none (Pt.get ((.ints .u64 5))) = some (field_Elem_Abs x) := by
  intro x; kernel_rfl
theorem s_field_Elem_Abs {w0 : World}  (h42 : SoundAt Tryd.prog w0 42 ct_field_Elem_Least) (h44 : SoundAt Tryd.prog w0 44 ct_field_Elem_Neg) (h65 : SoundAt Tryd.prog w0 65 ct_field_Select) : SoundAt Tryd.prog w0 55 ct_field_Elem_Abs := by
  have hcs : ∀ x ∈ cs_field_Elem_Abs, SoundAt Tryd.prog w0 x.1 x.2 := by
    intro x hx
    simp only [cs_field_Elem_Abs, List.mem_cons, List.not_mem_nil, or_false] at hx
    rcases hx with rfl | rfl | rfl
    · exact h42
    · exact h44
    · exact h65
  exact sound_tct (fn_printed hcs (glob_nil _ _) Tryd.func55 (by kernel_rfl) (by kernel_rfl) (S := 0) (fun w _ => loopsOK_nil _) (fun _ => rfl) (r_field_Elem_Abs)) fun _ _ => rfl
theorem k_field_Elem_Abs {w0 : World}  : SoundAt Tryd.prog w0 55 ct_field_Elem_Abs :=
  s_field_Elem_Abs (k_field_Elem_Least) (k_field_Elem_Neg) (k_field_Select)

def ct_field_Const : Ct := fct (.one (.int .i64)) (.ints .u64 5) fun x => field_Const x
def cs_field_Const : List (FuncId × Ct) := []
def gs_field_Const : List Gv := [⟨4, 71, (.rows 7 fun i => .ints .u64 5 (field_tab i))⟩]
noncomputable def ls_field_Const : List (Nat × Lf) := []
theorem r_field_Const : ∀ x, run Tryd.prog (fun g => lkG g (cs_field_Const)) (glAt gs_field_Const 0) (gs_field_Const.length + 0) (memAt gs_field_Const 0 ++ (unc gs_field_Const.length (Ag.mk ((.one (.int .i64))) x)).2) (fun i => lkL i (ls_field_Const)) 100 Tryd.f21 (unc gs_field_Const.length (Ag.mk ((.one (.int .i64))) x)).1 none (Pt.get ((.ints .u64 5))) = field_Const x := by
  intro x; kernel_rfl
theorem s_field_Const {w0 : World}  (hg : GlobOK Tryd.prog w0 gs_field_Const) : SoundAt Tryd.prog w0 21 ct_field_Const := by
  have hcs : ∀ x ∈ cs_field_Const, SoundAt Tryd.prog w0 x.1 x.2 := by
    intro x hx
    simp [cs_field_Const] at hx
  exact fn_printed hcs hg Tryd.func21 (by kernel_rfl) (by kernel_rfl) (S := 0) (fun w _ => loopsOK_nil _) (fun _ => rfl) (r_field_Const)
theorem k_field_Const {w0 : World}  (hg_field_Const : GlobOK Tryd.prog w0 gs_field_Const) : SoundAt Tryd.prog w0 21 ct_field_Const :=
  s_field_Const hg_field_Const

def ct_field_SqrtRatio (N : Nat) : Ct := fct (.cons (.ints .u64 5) (.one (.ints .u64 5))) (.tup (.cons (.ints .u64 5) (.one .bool))) fun x => field_SqrtRatio N x.1 x.2
def cs_field_SqrtRatio (N : Nat) : List (FuncId × Ct) := [(22, ct_field_Elem_Mul), (32, ct_field_Elem_Square), (42, ct_field_Elem_Least), (44, ct_field_Elem_Neg), (54, (ct_field_Elem_root N)), (55, ct_field_Elem_Abs)]
def gs_field_SqrtRatio : List Gv := [⟨4, 71, (.rows 7 fun i => .ints .u64 5 (field_tab i))⟩]
noncomputable def ls_field_SqrtRatio (N : Nat) : List (Nat × Lf) := []
theorem r_field_SqrtRatio (N : Nat) : ∀ x, run Tryd.prog (fun g => lkG g (cs_field_SqrtRatio N)) (glAt gs_field_SqrtRatio 0) (gs_field_SqrtRatio.length + 0) (memAt gs_field_SqrtRatio 0 ++ (unc gs_field_SqrtRatio.length (Ag.mk ((.cons (.ints .u64 5) (.one (.ints .u64 5)))) x)).2) (fun i => lkL i (ls_field_SqrtRatio N)) 100 Tryd.f33 (unc gs_field_SqrtRatio.length (Ag.mk ((.cons (.ints .u64 5) (.one (.ints .u64 5)))) x)).1 none (Pt.get ((.tup (.cons (.ints .u64 5) (.one .bool))))) = field_SqrtRatio N x.1 x.2 := by
  intro x; kernel_rfl
theorem s_field_SqrtRatio {w0 : World} (N : Nat)  (h22 : SoundAt Tryd.prog w0 22 ct_field_Elem_Mul) (h32 : SoundAt Tryd.prog w0 32 ct_field_Elem_Square) (h42 : SoundAt Tryd.prog w0 42 ct_field_Elem_Least) (h44 : SoundAt Tryd.prog w0 44 ct_field_Elem_Neg) (h54 : SoundAt Tryd.prog w0 54 (ct_field_Elem_root N)) (h55 : SoundAt Tryd.prog w0 55 ct_field_Elem_Abs) (hg : GlobOK Tryd.prog w0 gs_field_SqrtRatio) : SoundAt Tryd.prog w0 33 (ct_field_SqrtRatio N) := by
  have hcs : ∀ x ∈ cs_field_SqrtRatio N, SoundAt Tryd.prog w0 x.1 x.2 := by
    intro x hx
    simp only [cs_field_SqrtRatio, List.mem_cons, List.not_mem_nil, or_false] at hx
    rcases hx with rfl | rfl | rfl | rfl | rfl | rfl
    · exact h22
    · exact h32
    · exact h42
    · exact h44
    · exact h54
    · exact h55
  exact fn_printed hcs hg Tryd.func33 (by kernel_rfl) (by kernel_rfl) (S := 0) (fun w _ => loopsOK_nil _) (fun _ => rfl) (r_field_SqrtRatio N)
theorem k_field_SqrtRatio {w0 : World} (N : Nat)  (hg_field_SqrtRatio : GlobOK Tryd.prog w0 gs_field_SqrtRatio) : SoundAt Tryd.prog w0 33 (ct_field_SqrtRatio N) :=
  s_field_SqrtRatio N (k_field_Elem_Mul) (k_field_Elem_Square) (k_field_Elem_Least) (k_field_Elem_Neg) (k_field_Elem_root N) (k_field_Elem_Abs) hg_field_SqrtRatio

def ct_curve_place_whole : Ct := tct (.one (.agg (.cons (.ints .u64 5) (.cons (.ints .u64 5) (.cons (.ints .u64 5) (.one (.ints .u64 5))))))) (.agg (.cons (.ints .u64 5) (.cons (.ints .u64 5) (.cons (.ints .u64 5) (.one (.ints .u64 5)))))) fun x => curve_place_whole x
def cs_curve_place_whole : List (FuncId × Ct) := []
def gs_curve_place_whole : List Gv := [⟨5, 28, (.ints .u64 5 [1, 0, 0, 0, 0])⟩]
noncomputable def ls_curve_place_whole : List (Nat × Lf) := []
theorem r_curve_place_whole : ∀ x, run Tryd.prog (fun g => lkG g (cs_curve_place_whole)) (glAt gs_curve_place_whole 0) (gs_curve_place_whole.length + 0) (memAt gs_curve_place_whole 0 ++ (unc gs_curve_place_whole.length (Ag.mk ((.one (.agg (.cons (.ints .u64 5) (.cons (.ints .u64 5) (.cons (.ints .u64 5) (.one (.ints .u64 5)))))))) x)).2) (fun i => lkL i (ls_curve_place_whole)) 100 Tryd.f40 (unc gs_curve_place_whole.length (Ag.mk ((.one (.agg (.cons (.ints .u64 5) (.cons (.ints .u64 5) (.cons (.ints .u64 5) (.one (.ints .u64 5)))))))) x)).1 none (Pt.get ((.agg (.cons (.ints .u64 5) (.cons (.ints .u64 5) (.cons (.ints .u64 5) (.one (.ints .u64 5)))))))) = curve_place_whole_o x := by
  intro x; kernel_rfl
theorem s_curve_place_whole {w0 : World}  (hg : GlobOK Tryd.prog w0 gs_curve_place_whole) : SoundAt Tryd.prog w0 40 ct_curve_place_whole := by
  have hcs : ∀ x ∈ cs_curve_place_whole, SoundAt Tryd.prog w0 x.1 x.2 := by
    intro x hx
    simp [cs_curve_place_whole] at hx
  exact sound_tct (fn_printed hcs hg Tryd.func40 (by kernel_rfl) (by kernel_rfl) (S := 0) (fun w _ => loopsOK_nil _) (fun _ => rfl) (r_curve_place_whole)) fun _ _ => curve_place_whole_tot _
theorem k_curve_place_whole {w0 : World}  (hg_curve_place_whole : GlobOK Tryd.prog w0 gs_curve_place_whole) : SoundAt Tryd.prog w0 40 ct_curve_place_whole :=
  s_curve_place_whole hg_curve_place_whole

def ct_curve_at : Ct := fct (.cons (.ints .u64 5) (.one (.ints .u64 5))) (.agg (.one (.agg (.cons (.ints .u64 5) (.cons (.ints .u64 5) (.cons (.ints .u64 5) (.one (.ints .u64 5)))))))) fun x => curve_at x.1 x.2
def cs_curve_at : List (FuncId × Ct) := [(22, ct_field_Elem_Mul)]
def gs_curve_at : List Gv := [⟨5, 28, (.ints .u64 5 [1, 0, 0, 0, 0])⟩]
noncomputable def ls_curve_at : List (Nat × Lf) := []
theorem r_curve_at : ∀ x, run Tryd.prog (fun g => lkG g (cs_curve_at)) (glAt gs_curve_at 0) (gs_curve_at.length + 0) (memAt gs_curve_at 0 ++ (unc gs_curve_at.length (Ag.mk ((.cons (.ints .u64 5) (.one (.ints .u64 5)))) x)).2) (fun i => lkL i (ls_curve_at)) 100 Tryd.f51 (unc gs_curve_at.length (Ag.mk ((.cons (.ints .u64 5) (.one (.ints .u64 5)))) x)).1 none (Pt.get ((.agg (.one (.agg (.cons (.ints .u64 5) (.cons (.ints .u64 5) (.cons (.ints .u64 5) (.one (.ints .u64 5)))))))))) = curve_at x.1 x.2 := by
  intro x; kernel_rfl
theorem s_curve_at {w0 : World}  (h22 : SoundAt Tryd.prog w0 22 ct_field_Elem_Mul) (hg : GlobOK Tryd.prog w0 gs_curve_at) : SoundAt Tryd.prog w0 51 ct_curve_at := by
  have hcs : ∀ x ∈ cs_curve_at, SoundAt Tryd.prog w0 x.1 x.2 := by
    intro x hx
    simp only [cs_curve_at, List.mem_cons, List.not_mem_nil, or_false] at hx
    rcases hx with rfl
    · exact h22
  exact fn_printed hcs hg Tryd.func51 (by kernel_rfl) (by kernel_rfl) (S := 0) (fun w _ => loopsOK_nil _) (fun _ => rfl) (r_curve_at)
theorem k_curve_at {w0 : World}  (hg_curve_at : GlobOK Tryd.prog w0 gs_curve_at) : SoundAt Tryd.prog w0 51 ct_curve_at :=
  s_curve_at (k_field_Elem_Mul) hg_curve_at

def ct_curve_made : Ct := fct (.cons (.ints .u64 5) (.cons (.ints .u64 5) (.cons (.ints .u64 5) (.one (.ints .u64 5))))) (.agg (.one (.agg (.cons (.ints .u64 5) (.cons (.ints .u64 5) (.cons (.ints .u64 5) (.one (.ints .u64 5)))))))) fun x => curve_made x.1 x.2.1 x.2.2.1 x.2.2.2
def cs_curve_made : List (FuncId × Ct) := [(22, ct_field_Elem_Mul)]
def gs_curve_made : List Gv := []
noncomputable def ls_curve_made : List (Nat × Lf) := []
theorem r_curve_made : ∀ x, run Tryd.prog (fun g => lkG g (cs_curve_made)) (glAt gs_curve_made 0) (gs_curve_made.length + 0) (memAt gs_curve_made 0 ++ (unc gs_curve_made.length (Ag.mk ((.cons (.ints .u64 5) (.cons (.ints .u64 5) (.cons (.ints .u64 5) (.one (.ints .u64 5)))))) x)).2) (fun i => lkL i (ls_curve_made)) 100 Tryd.f43 (unc gs_curve_made.length (Ag.mk ((.cons (.ints .u64 5) (.cons (.ints .u64 5) (.cons (.ints .u64 5) (.one (.ints .u64 5)))))) x)).1 none (Pt.get ((.agg (.one (.agg (.cons (.ints .u64 5) (.cons (.ints .u64 5) (.cons (.ints .u64 5) (.one (.ints .u64 5)))))))))) = curve_made x.1 x.2.1 x.2.2.1 x.2.2.2 := by
  intro x; kernel_rfl
theorem s_curve_made {w0 : World}  (h22 : SoundAt Tryd.prog w0 22 ct_field_Elem_Mul) : SoundAt Tryd.prog w0 43 ct_curve_made := by
  have hcs : ∀ x ∈ cs_curve_made, SoundAt Tryd.prog w0 x.1 x.2 := by
    intro x hx
    simp only [cs_curve_made, List.mem_cons, List.not_mem_nil, or_false] at hx
    rcases hx with rfl
    · exact h22
  exact fn_printed hcs (glob_nil _ _) Tryd.func43 (by kernel_rfl) (by kernel_rfl) (S := 0) (fun w _ => loopsOK_nil _) (fun _ => rfl) (r_curve_made)
theorem k_curve_made {w0 : World}  : SoundAt Tryd.prog w0 43 ct_curve_made :=
  s_curve_made (k_field_Elem_Mul)

def ct_curve_Point_Add : Ct := fct (.cons (.agg (.one (.agg (.cons (.ints .u64 5) (.cons (.ints .u64 5) (.cons (.ints .u64 5) (.one (.ints .u64 5)))))))) (.one (.agg (.one (.agg (.cons (.ints .u64 5) (.cons (.ints .u64 5) (.cons (.ints .u64 5) (.one (.ints .u64 5)))))))))) (.agg (.one (.agg (.cons (.ints .u64 5) (.cons (.ints .u64 5) (.cons (.ints .u64 5) (.one (.ints .u64 5)))))))) fun x => curve_Point_Add x.1 x.2
def cs_curve_Point_Add : List (FuncId × Ct) := [(22, ct_field_Elem_Mul), (24, ct_field_Elem_Add), (25, ct_field_Elem_Sub), (40, ct_curve_place_whole), (43, ct_curve_made)]
def gs_curve_Point_Add : List Gv := [⟨3, 28, (.ints .u64 5 [1859910466990425, 932731440258426, 1072319116312658, 1815898335770999, 633789495995903])⟩]
noncomputable def ls_curve_Point_Add : List (Nat × Lf) := []
theorem r_curve_Point_Add : ∀ x, run Tryd.prog (fun g => lkG g (cs_curve_Point_Add)) (glAt gs_curve_Point_Add 0) (gs_curve_Point_Add.length + 0) (memAt gs_curve_Point_Add 0 ++ (unc gs_curve_Point_Add.length (Ag.mk ((.cons (.agg (.one (.agg (.cons (.ints .u64 5) (.cons (.ints .u64 5) (.cons (.ints .u64 5) (.one (.ints .u64 5)))))))) (.one (.agg (.one (.agg (.cons (.ints .u64 5) (.cons (.ints .u64 5) (.cons (.ints .u64 5) (.one (.ints .u64 5))))))))))) x)).2) (fun i => lkL i (ls_curve_Point_Add)) 100 Tryd.f16 (unc gs_curve_Point_Add.length (Ag.mk ((.cons (.agg (.one (.agg (.cons (.ints .u64 5) (.cons (.ints .u64 5) (.cons (.ints .u64 5) (.one (.ints .u64 5)))))))) (.one (.agg (.one (.agg (.cons (.ints .u64 5) (.cons (.ints .u64 5) (.cons (.ints .u64 5) (.one (.ints .u64 5))))))))))) x)).1 none (Pt.get ((.agg (.one (.agg (.cons (.ints .u64 5) (.cons (.ints .u64 5) (.cons (.ints .u64 5) (.one (.ints .u64 5)))))))))) = curve_Point_Add x.1 x.2 := by
  intro x; kernel_rfl
theorem s_curve_Point_Add {w0 : World}  (h22 : SoundAt Tryd.prog w0 22 ct_field_Elem_Mul) (h24 : SoundAt Tryd.prog w0 24 ct_field_Elem_Add) (h25 : SoundAt Tryd.prog w0 25 ct_field_Elem_Sub) (h40 : SoundAt Tryd.prog w0 40 ct_curve_place_whole) (h43 : SoundAt Tryd.prog w0 43 ct_curve_made) (hg : GlobOK Tryd.prog w0 gs_curve_Point_Add) : SoundAt Tryd.prog w0 16 ct_curve_Point_Add := by
  have hcs : ∀ x ∈ cs_curve_Point_Add, SoundAt Tryd.prog w0 x.1 x.2 := by
    intro x hx
    simp only [cs_curve_Point_Add, List.mem_cons, List.not_mem_nil, or_false] at hx
    rcases hx with rfl | rfl | rfl | rfl | rfl
    · exact h22
    · exact h24
    · exact h25
    · exact h40
    · exact h43
  exact fn_printed hcs hg Tryd.func16 (by kernel_rfl) (by kernel_rfl) (S := 0) (fun w _ => loopsOK_nil _) (fun _ => rfl) (r_curve_Point_Add)
theorem k_curve_Point_Add {w0 : World}  (hg_curve_place_whole : GlobOK Tryd.prog w0 gs_curve_place_whole) (hg_curve_Point_Add : GlobOK Tryd.prog w0 gs_curve_Point_Add) : SoundAt Tryd.prog w0 16 ct_curve_Point_Add :=
  s_curve_Point_Add (k_field_Elem_Mul) (k_field_Elem_Add) (k_field_Elem_Sub) (k_curve_place_whole hg_curve_place_whole) (k_curve_made) hg_curve_Point_Add

def ct_curve_Point_Neg : Ct := tct (.one (.agg (.one (.agg (.cons (.ints .u64 5) (.cons (.ints .u64 5) (.cons (.ints .u64 5) (.one (.ints .u64 5))))))))) (.agg (.one (.agg (.cons (.ints .u64 5) (.cons (.ints .u64 5) (.cons (.ints .u64 5) (.one (.ints .u64 5)))))))) fun x => curve_Point_Neg x
def cs_curve_Point_Neg : List (FuncId × Ct) := [(40, ct_curve_place_whole), (44, ct_field_Elem_Neg)]
def gs_curve_Point_Neg : List Gv := []
noncomputable def ls_curve_Point_Neg : List (Nat × Lf) := []
theorem r_curve_Point_Neg : ∀ x, run Tryd.prog (fun g => lkG g (cs_curve_Point_Neg)) (glAt gs_curve_Point_Neg 0) (gs_curve_Point_Neg.length + 0) (memAt gs_curve_Point_Neg 0 ++ (unc gs_curve_Point_Neg.length (Ag.mk ((.one (.agg (.one (.agg (.cons (.ints .u64 5) (.cons (.ints .u64 5) (.cons (.ints .u64 5) (.one (.ints .u64 5)))))))))) x)).2) (fun i => lkL i (ls_curve_Point_Neg)) 100 Tryd.f20 (unc gs_curve_Point_Neg.length (Ag.mk ((.one (.agg (.one (.agg (.cons (.ints .u64 5) (.cons (.ints .u64 5) (.cons (.ints .u64 5) (.one (.ints .u64 5)))))))))) x)).1 none (Pt.get ((.agg (.one (.agg (.cons (.ints .u64 5) (.cons (.ints .u64 5) (.cons (.ints .u64 5) (.one (.ints .u64 5)))))))))) = some (curve_Point_Neg x) := by
  intro x; kernel_rfl
theorem s_curve_Point_Neg {w0 : World}  (h40 : SoundAt Tryd.prog w0 40 ct_curve_place_whole) (h44 : SoundAt Tryd.prog w0 44 ct_field_Elem_Neg) : SoundAt Tryd.prog w0 20 ct_curve_Point_Neg := by
  have hcs : ∀ x ∈ cs_curve_Point_Neg, SoundAt Tryd.prog w0 x.1 x.2 := by
    intro x hx
    simp only [cs_curve_Point_Neg, List.mem_cons, List.not_mem_nil, or_false] at hx
    rcases hx with rfl | rfl
    · exact h40
    · exact h44
  exact sound_tct (fn_printed hcs (glob_nil _ _) Tryd.func20 (by kernel_rfl) (by kernel_rfl) (S := 0) (fun w _ => loopsOK_nil _) (fun _ => rfl) (r_curve_Point_Neg)) fun _ _ => rfl
theorem k_curve_Point_Neg {w0 : World}  (hg_curve_place_whole : GlobOK Tryd.prog w0 gs_curve_place_whole) : SoundAt Tryd.prog w0 20 ct_curve_Point_Neg :=
  s_curve_Point_Neg (k_curve_place_whole hg_curve_place_whole) (k_field_Elem_Neg)

def ct_curve_Point_Sub : Ct := fct (.cons (.agg (.one (.agg (.cons (.ints .u64 5) (.cons (.ints .u64 5) (.cons (.ints .u64 5) (.one (.ints .u64 5)))))))) (.one (.agg (.one (.agg (.cons (.ints .u64 5) (.cons (.ints .u64 5) (.cons (.ints .u64 5) (.one (.ints .u64 5)))))))))) (.agg (.one (.agg (.cons (.ints .u64 5) (.cons (.ints .u64 5) (.cons (.ints .u64 5) (.one (.ints .u64 5)))))))) fun x => curve_Point_Sub x.1 x.2
def cs_curve_Point_Sub : List (FuncId × Ct) := [(16, ct_curve_Point_Add), (20, ct_curve_Point_Neg)]
def gs_curve_Point_Sub : List Gv := []
noncomputable def ls_curve_Point_Sub : List (Nat × Lf) := []
theorem r_curve_Point_Sub : ∀ x, run Tryd.prog (fun g => lkG g (cs_curve_Point_Sub)) (glAt gs_curve_Point_Sub 0) (gs_curve_Point_Sub.length + 0) (memAt gs_curve_Point_Sub 0 ++ (unc gs_curve_Point_Sub.length (Ag.mk ((.cons (.agg (.one (.agg (.cons (.ints .u64 5) (.cons (.ints .u64 5) (.cons (.ints .u64 5) (.one (.ints .u64 5)))))))) (.one (.agg (.one (.agg (.cons (.ints .u64 5) (.cons (.ints .u64 5) (.cons (.ints .u64 5) (.one (.ints .u64 5))))))))))) x)).2) (fun i => lkL i (ls_curve_Point_Sub)) 100 Tryd.f19 (unc gs_curve_Point_Sub.length (Ag.mk ((.cons (.agg (.one (.agg (.cons (.ints .u64 5) (.cons (.ints .u64 5) (.cons (.ints .u64 5) (.one (.ints .u64 5)))))))) (.one (.agg (.one (.agg (.cons (.ints .u64 5) (.cons (.ints .u64 5) (.cons (.ints .u64 5) (.one (.ints .u64 5))))))))))) x)).1 none (Pt.get ((.agg (.one (.agg (.cons (.ints .u64 5) (.cons (.ints .u64 5) (.cons (.ints .u64 5) (.one (.ints .u64 5)))))))))) = curve_Point_Sub x.1 x.2 := by
  intro x; kernel_rfl
theorem s_curve_Point_Sub {w0 : World}  (h16 : SoundAt Tryd.prog w0 16 ct_curve_Point_Add) (h20 : SoundAt Tryd.prog w0 20 ct_curve_Point_Neg) : SoundAt Tryd.prog w0 19 ct_curve_Point_Sub := by
  have hcs : ∀ x ∈ cs_curve_Point_Sub, SoundAt Tryd.prog w0 x.1 x.2 := by
    intro x hx
    simp only [cs_curve_Point_Sub, List.mem_cons, List.not_mem_nil, or_false] at hx
    rcases hx with rfl | rfl
    · exact h16
    · exact h20
  exact fn_printed hcs (glob_nil _ _) Tryd.func19 (by kernel_rfl) (by kernel_rfl) (S := 0) (fun w _ => loopsOK_nil _) (fun _ => rfl) (r_curve_Point_Sub)
theorem k_curve_Point_Sub {w0 : World}  (hg_curve_place_whole : GlobOK Tryd.prog w0 gs_curve_place_whole) (hg_curve_Point_Add : GlobOK Tryd.prog w0 gs_curve_Point_Add) : SoundAt Tryd.prog w0 19 ct_curve_Point_Sub :=
  s_curve_Point_Sub (k_curve_Point_Add hg_curve_place_whole hg_curve_Point_Add) (k_curve_Point_Neg hg_curve_place_whole)

def ct_curve_Point_Double : Ct := fct (.one (.agg (.one (.agg (.cons (.ints .u64 5) (.cons (.ints .u64 5) (.cons (.ints .u64 5) (.one (.ints .u64 5))))))))) (.agg (.one (.agg (.cons (.ints .u64 5) (.cons (.ints .u64 5) (.cons (.ints .u64 5) (.one (.ints .u64 5)))))))) fun x => curve_Point_Double x
def cs_curve_Point_Double : List (FuncId × Ct) := [(24, ct_field_Elem_Add), (25, ct_field_Elem_Sub), (32, ct_field_Elem_Square), (40, ct_curve_place_whole), (43, ct_curve_made), (44, ct_field_Elem_Neg)]
def gs_curve_Point_Double : List Gv := []
noncomputable def ls_curve_Point_Double : List (Nat × Lf) := []
theorem r_curve_Point_Double : ∀ x, run Tryd.prog (fun g => lkG g (cs_curve_Point_Double)) (glAt gs_curve_Point_Double 0) (gs_curve_Point_Double.length + 0) (memAt gs_curve_Point_Double 0 ++ (unc gs_curve_Point_Double.length (Ag.mk ((.one (.agg (.one (.agg (.cons (.ints .u64 5) (.cons (.ints .u64 5) (.cons (.ints .u64 5) (.one (.ints .u64 5)))))))))) x)).2) (fun i => lkL i (ls_curve_Point_Double)) 100 Tryd.f15 (unc gs_curve_Point_Double.length (Ag.mk ((.one (.agg (.one (.agg (.cons (.ints .u64 5) (.cons (.ints .u64 5) (.cons (.ints .u64 5) (.one (.ints .u64 5)))))))))) x)).1 none (Pt.get ((.agg (.one (.agg (.cons (.ints .u64 5) (.cons (.ints .u64 5) (.cons (.ints .u64 5) (.one (.ints .u64 5)))))))))) = curve_Point_Double x := by
  intro x; kernel_rfl
theorem s_curve_Point_Double {w0 : World}  (h24 : SoundAt Tryd.prog w0 24 ct_field_Elem_Add) (h25 : SoundAt Tryd.prog w0 25 ct_field_Elem_Sub) (h32 : SoundAt Tryd.prog w0 32 ct_field_Elem_Square) (h40 : SoundAt Tryd.prog w0 40 ct_curve_place_whole) (h43 : SoundAt Tryd.prog w0 43 ct_curve_made) (h44 : SoundAt Tryd.prog w0 44 ct_field_Elem_Neg) : SoundAt Tryd.prog w0 15 ct_curve_Point_Double := by
  have hcs : ∀ x ∈ cs_curve_Point_Double, SoundAt Tryd.prog w0 x.1 x.2 := by
    intro x hx
    simp only [cs_curve_Point_Double, List.mem_cons, List.not_mem_nil, or_false] at hx
    rcases hx with rfl | rfl | rfl | rfl | rfl | rfl
    · exact h24
    · exact h25
    · exact h32
    · exact h40
    · exact h43
    · exact h44
  exact fn_printed hcs (glob_nil _ _) Tryd.func15 (by kernel_rfl) (by kernel_rfl) (S := 0) (fun w _ => loopsOK_nil _) (fun _ => rfl) (r_curve_Point_Double)
theorem k_curve_Point_Double {w0 : World}  (hg_curve_place_whole : GlobOK Tryd.prog w0 gs_curve_place_whole) : SoundAt Tryd.prog w0 15 ct_curve_Point_Double :=
  s_curve_Point_Double (k_field_Elem_Add) (k_field_Elem_Sub) (k_field_Elem_Square) (k_curve_place_whole hg_curve_place_whole) (k_curve_made) (k_field_Elem_Neg)

def ct_curve_Point_Same : Ct := fct (.cons (.agg (.one (.agg (.cons (.ints .u64 5) (.cons (.ints .u64 5) (.cons (.ints .u64 5) (.one (.ints .u64 5)))))))) (.one (.agg (.one (.agg (.cons (.ints .u64 5) (.cons (.ints .u64 5) (.cons (.ints .u64 5) (.one (.ints .u64 5)))))))))) .bool fun x => curve_Point_Same x.1 x.2
def cs_curve_Point_Same : List (FuncId × Ct) := [(22, ct_field_Elem_Mul), (40, ct_curve_place_whole)]
def gs_curve_Point_Same : List Gv := []
noncomputable def ls_curve_Point_Same : List (Nat × Lf) := []
theorem r_curve_Point_Same : ∀ x, run Tryd.prog (fun g => lkG g (cs_curve_Point_Same)) (glAt gs_curve_Point_Same 0) (gs_curve_Point_Same.length + 0) (memAt gs_curve_Point_Same 0 ++ (unc gs_curve_Point_Same.length (Ag.mk ((.cons (.agg (.one (.agg (.cons (.ints .u64 5) (.cons (.ints .u64 5) (.cons (.ints .u64 5) (.one (.ints .u64 5)))))))) (.one (.agg (.one (.agg (.cons (.ints .u64 5) (.cons (.ints .u64 5) (.cons (.ints .u64 5) (.one (.ints .u64 5))))))))))) x)).2) (fun i => lkL i (ls_curve_Point_Same)) 100 Tryd.f13 (unc gs_curve_Point_Same.length (Ag.mk ((.cons (.agg (.one (.agg (.cons (.ints .u64 5) (.cons (.ints .u64 5) (.cons (.ints .u64 5) (.one (.ints .u64 5)))))))) (.one (.agg (.one (.agg (.cons (.ints .u64 5) (.cons (.ints .u64 5) (.cons (.ints .u64 5) (.one (.ints .u64 5))))))))))) x)).1 none (Pt.get (.bool)) = curve_Point_Same x.1 x.2 := by
  intro x; kernel_rfl
theorem s_curve_Point_Same {w0 : World}  (h22 : SoundAt Tryd.prog w0 22 ct_field_Elem_Mul) (h40 : SoundAt Tryd.prog w0 40 ct_curve_place_whole) : SoundAt Tryd.prog w0 13 ct_curve_Point_Same := by
  have hcs : ∀ x ∈ cs_curve_Point_Same, SoundAt Tryd.prog w0 x.1 x.2 := by
    intro x hx
    simp only [cs_curve_Point_Same, List.mem_cons, List.not_mem_nil, or_false] at hx
    rcases hx with rfl | rfl
    · exact h22
    · exact h40
  exact fn_printed hcs (glob_nil _ _) Tryd.func13 (by kernel_rfl) (by kernel_rfl) (S := 0) (fun w _ => loopsOK_nil _) (fun _ => rfl) (r_curve_Point_Same)
theorem k_curve_Point_Same {w0 : World}  (hg_curve_place_whole : GlobOK Tryd.prog w0 gs_curve_place_whole) : SoundAt Tryd.prog w0 13 ct_curve_Point_Same :=
  s_curve_Point_Same (k_field_Elem_Mul) (k_curve_place_whole hg_curve_place_whole)

def ct_curve_Point_Affine (N : Nat) : Ct := fct (.one (.agg (.one (.agg (.cons (.ints .u64 5) (.cons (.ints .u64 5) (.cons (.ints .u64 5) (.one (.ints .u64 5))))))))) (.tup (.cons (.ints .u64 5) (.one (.ints .u64 5)))) fun x => curve_Point_Affine N x
def cs_curve_Point_Affine (N : Nat) : List (FuncId × Ct) := [(22, ct_field_Elem_Mul), (40, ct_curve_place_whole), (41, (ct_field_Elem_Invert N))]
def gs_curve_Point_Affine : List Gv := []
noncomputable def ls_curve_Point_Affine (N : Nat) : List (Nat × Lf) := []
theorem r_curve_Point_Affine (N : Nat) : ∀ x, run Tryd.prog (fun g => lkG g (cs_curve_Point_Affine N)) (glAt gs_curve_Point_Affine 0) (gs_curve_Point_Affine.length + 0) (memAt gs_curve_Point_Affine 0 ++ (unc gs_curve_Point_Affine.length (Ag.mk ((.one (.agg (.one (.agg (.cons (.ints .u64 5) (.cons (.ints .u64 5) (.cons (.ints .u64 5) (.one (.ints .u64 5)))))))))) x)).2) (fun i => lkL i (ls_curve_Point_Affine N)) 100 Tryd.f9 (unc gs_curve_Point_Affine.length (Ag.mk ((.one (.agg (.one (.agg (.cons (.ints .u64 5) (.cons (.ints .u64 5) (.cons (.ints .u64 5) (.one (.ints .u64 5)))))))))) x)).1 none (Pt.get ((.tup (.cons (.ints .u64 5) (.one (.ints .u64 5)))))) = curve_Point_Affine N x := by
  intro x; kernel_rfl
theorem s_curve_Point_Affine {w0 : World} (N : Nat)  (h22 : SoundAt Tryd.prog w0 22 ct_field_Elem_Mul) (h40 : SoundAt Tryd.prog w0 40 ct_curve_place_whole) (h41 : SoundAt Tryd.prog w0 41 (ct_field_Elem_Invert N)) : SoundAt Tryd.prog w0 9 (ct_curve_Point_Affine N) := by
  have hcs : ∀ x ∈ cs_curve_Point_Affine N, SoundAt Tryd.prog w0 x.1 x.2 := by
    intro x hx
    simp only [cs_curve_Point_Affine, List.mem_cons, List.not_mem_nil, or_false] at hx
    rcases hx with rfl | rfl | rfl
    · exact h22
    · exact h40
    · exact h41
  exact fn_printed hcs (glob_nil _ _) Tryd.func9 (by kernel_rfl) (by kernel_rfl) (S := 0) (fun w _ => loopsOK_nil _) (fun _ => rfl) (r_curve_Point_Affine N)
theorem k_curve_Point_Affine {w0 : World} (N : Nat)  (hg_curve_place_whole : GlobOK Tryd.prog w0 gs_curve_place_whole) : SoundAt Tryd.prog w0 9 (ct_curve_Point_Affine N) :=
  s_curve_Point_Affine N (k_field_Elem_Mul) (k_curve_place_whole hg_curve_place_whole) (k_field_Elem_Invert N)

def ct_curve_FromAffine : Ct := fct (.cons (.ints .u64 5) (.one (.ints .u64 5))) (.tup (.cons (.agg (.one (.agg (.cons (.ints .u64 5) (.cons (.ints .u64 5) (.cons (.ints .u64 5) (.one (.ints .u64 5)))))))) (.one (.int .i64)))) fun x => curve_FromAffine x.1 x.2
def cs_curve_FromAffine : List (FuncId × Ct) := [(21, ct_field_Const), (22, ct_field_Elem_Mul), (24, ct_field_Elem_Add), (25, ct_field_Elem_Sub), (32, ct_field_Elem_Square), (42, ct_field_Elem_Least), (51, ct_curve_at)]
def gs_curve_FromAffine : List Gv := [⟨5, 28, (.ints .u64 5 [1, 0, 0, 0, 0])⟩]
noncomputable def ls_curve_FromAffine : List (Nat × Lf) := []
theorem r_curve_FromAffine : ∀ x, run Tryd.prog (fun g => lkG g (cs_curve_FromAffine)) (glAt gs_curve_FromAffine 0) (gs_curve_FromAffine.length + 0) (memAt gs_curve_FromAffine 0 ++ (unc gs_curve_FromAffine.length (Ag.mk ((.cons (.ints .u64 5) (.one (.ints .u64 5)))) x)).2) (fun i => lkL i (ls_curve_FromAffine)) 100 Tryd.f29 (unc gs_curve_FromAffine.length (Ag.mk ((.cons (.ints .u64 5) (.one (.ints .u64 5)))) x)).1 none (Pt.get ((.tup (.cons (.agg (.one (.agg (.cons (.ints .u64 5) (.cons (.ints .u64 5) (.cons (.ints .u64 5) (.one (.ints .u64 5)))))))) (.one (.int .i64)))))) = curve_FromAffine x.1 x.2 := by
  intro x; kernel_rfl
theorem s_curve_FromAffine {w0 : World}  (h21 : SoundAt Tryd.prog w0 21 ct_field_Const) (h22 : SoundAt Tryd.prog w0 22 ct_field_Elem_Mul) (h24 : SoundAt Tryd.prog w0 24 ct_field_Elem_Add) (h25 : SoundAt Tryd.prog w0 25 ct_field_Elem_Sub) (h32 : SoundAt Tryd.prog w0 32 ct_field_Elem_Square) (h42 : SoundAt Tryd.prog w0 42 ct_field_Elem_Least) (h51 : SoundAt Tryd.prog w0 51 ct_curve_at) (hg : GlobOK Tryd.prog w0 gs_curve_FromAffine) : SoundAt Tryd.prog w0 29 ct_curve_FromAffine := by
  have hcs : ∀ x ∈ cs_curve_FromAffine, SoundAt Tryd.prog w0 x.1 x.2 := by
    intro x hx
    simp only [cs_curve_FromAffine, List.mem_cons, List.not_mem_nil, or_false] at hx
    rcases hx with rfl | rfl | rfl | rfl | rfl | rfl | rfl
    · exact h21
    · exact h22
    · exact h24
    · exact h25
    · exact h32
    · exact h42
    · exact h51
  exact fn_printed hcs hg Tryd.func29 (by kernel_rfl) (by kernel_rfl) (S := 0) (fun w _ => loopsOK_nil _) (fun _ => rfl) (r_curve_FromAffine)
theorem k_curve_FromAffine {w0 : World}  (hg_field_Const : GlobOK Tryd.prog w0 gs_field_Const) (hg_curve_at : GlobOK Tryd.prog w0 gs_curve_at) (hg_curve_FromAffine : GlobOK Tryd.prog w0 gs_curve_FromAffine) : SoundAt Tryd.prog w0 29 ct_curve_FromAffine :=
  s_curve_FromAffine (k_field_Const hg_field_Const) (k_field_Elem_Mul) (k_field_Elem_Add) (k_field_Elem_Sub) (k_field_Elem_Square) (k_field_Elem_Least) (k_curve_at hg_curve_at) hg_curve_FromAffine

def ct_curve_Base : Ct := tct .nil (.agg (.one (.agg (.cons (.ints .u64 5) (.cons (.ints .u64 5) (.cons (.ints .u64 5) (.one (.ints .u64 5)))))))) fun x => curve_Base
def cs_curve_Base : List (FuncId × Ct) := []
def gs_curve_Base : List Gv := [⟨6, 35, (.agg [(.agg [(.ints .u64 5 [1738742601995546, 1146398526822698, 2070867633025821, 562264141797630, 587772402128613]), (.ints .u64 5 [1801439850948184, 1351079888211148, 450359962737049, 900719925474099, 1801439850948198]), (.ints .u64 5 [1, 0, 0, 0, 0]), (.ints .u64 5 [1841354044333475, 16398895984059, 755974180946558, 900171276175154, 1821297809914039])])])⟩]
noncomputable def ls_curve_Base : List (Nat × Lf) := []
theorem r_curve_Base : ∀ x, run Tryd.prog (fun g => lkG g (cs_curve_Base)) (glAt gs_curve_Base 0) (gs_curve_Base.length + 0) (memAt gs_curve_Base 0 ++ (unc gs_curve_Base.length (Ag.mk (.nil) x)).2) (fun i => lkL i (ls_curve_Base)) 100 Tryd.f39 (unc gs_curve_Base.length (Ag.mk (.nil) x)).1 none (Pt.get ((.agg (.one (.agg (.cons (.ints .u64 5) (.cons (.ints .u64 5) (.cons (.ints .u64 5) (.one (.ints .u64 5)))))))))) = some (curve_Base) := by
  intro x; kernel_rfl
theorem s_curve_Base {w0 : World}  (hg : GlobOK Tryd.prog w0 gs_curve_Base) : SoundAt Tryd.prog w0 39 ct_curve_Base := by
  have hcs : ∀ x ∈ cs_curve_Base, SoundAt Tryd.prog w0 x.1 x.2 := by
    intro x hx
    simp [cs_curve_Base] at hx
  exact sound_tct (fn_printed hcs hg Tryd.func39 (by kernel_rfl) (by kernel_rfl) (S := 0) (fun w _ => loopsOK_nil _) (fun _ => rfl) (r_curve_Base)) fun _ _ => rfl
theorem k_curve_Base {w0 : World}  (hg_curve_Base : GlobOK Tryd.prog w0 gs_curve_Base) : SoundAt Tryd.prog w0 39 ct_curve_Base :=
  s_curve_Base hg_curve_Base

def ct_curve_Torsion : Ct := fct (.one (.int .i64)) (.agg (.one (.agg (.cons (.ints .u64 5) (.cons (.ints .u64 5) (.cons (.ints .u64 5) (.one (.ints .u64 5)))))))) fun x => curve_Torsion x
def cs_curve_Torsion : List (FuncId × Ct) := []
def gs_curve_Torsion : List Gv := [⟨1, 68, (.agg [(.agg [(.agg [(.ints .u64 5 [0, 0, 0, 0, 0]), (.ints .u64 5 [0, 0, 0, 0, 0]), (.ints .u64 5 [0, 0, 0, 0, 0]), (.ints .u64 5 [0, 0, 0, 0, 0])])]), (.agg [(.agg [(.ints .u64 5 [358744748052810, 1691584618240980, 977650209285361, 1429865912637724, 560044844278676]), (.ints .u64 5 [2166873539340326, 1778179147085316, 1886209374839743, 1223329526802818, 105300633354275]), (.ints .u64 5 [1, 0, 0, 0, 0]), (.ints .u64 5 [803472979097708, 393902981724766, 1158077081819914, 574391322974006, 336294660666841])])]), (.agg [(.agg [(.ints .u64 5 [1718705420411056, 234908883556509, 2233514472574048, 2117202627021982, 765476049583133]), (.ints .u64 5 [0, 0, 0, 0, 0]), (.ints .u64 5 [1, 0, 0, 0, 0]), (.ints .u64 5 [0, 0, 0, 0, 0])])]), (.agg [(.agg [(.ints .u64 5 [358744748052810, 1691584618240980, 977650209285361, 1429865912637724, 560044844278676]), (.ints .u64 5 [84926274344903, 473620666599931, 365590438845504, 1028470286882429, 2146499180330972]), (.ints .u64 5 [1, 0, 0, 0, 0]), (.ints .u64 5 [1448326834587521, 1857896831960481, 1093722731865333, 1677408490711241, 1915505153018406])])]), (.agg [(.agg [(.ints .u64 5 [0, 0, 0, 0, 0]), (.ints .u64 5 [2251799813685228, 2251799813685247, 2251799813685247, 2251799813685247, 2251799813685247]), (.ints .u64 5 [1, 0, 0, 0, 0]), (.ints .u64 5 [0, 0, 0, 0, 0])])]), (.agg [(.agg [(.ints .u64 5 [1893055065632419, 560215195444267, 1274149604399886, 821933901047523, 1691754969406571]), (.ints .u64 5 [84926274344903, 473620666599931, 365590438845504, 1028470286882429, 2146499180330972]), (.ints .u64 5 [1, 0, 0, 0, 0]), (.ints .u64 5 [803472979097708, 393902981724766, 1158077081819914, 574391322974006, 336294660666841])])]), (.agg [(.agg [(.ints .u64 5 [533094393274173, 2016890930128738, 18285341111199, 134597186663265, 1486323764102114]), (.ints .u64 5 [0, 0, 0, 0, 0]), (.ints .u64 5 [1, 0, 0, 0, 0]), (.ints .u64 5 [0, 0, 0, 0, 0])])]), (.agg [(.agg [(.ints .u64 5 [1893055065632419, 560215195444267, 1274149604399886, 821933901047523, 1691754969406571]), (.ints .u64 5 [2166873539340326, 1778179147085316, 1886209374839743, 1223329526802818, 105300633354275]), (.ints .u64 5 [1, 0, 0, 0, 0]), (.ints .u64 5 [1448326834587521, 1857896831960481, 1093722731865333, 1677408490711241, 1915505153018406])])])])⟩]
noncomputable def ls_curve_Torsion : List (Nat × Lf) := []
theorem r_curve_Torsion : ∀ x, run Tryd.prog (fun g => lkG g (cs_curve_Torsion)) (glAt gs_curve_Torsion 0) (gs_curve_Torsion.length + 0) (memAt gs_curve_Torsion 0 ++ (unc gs_curve_Torsion.length (Ag.mk ((.one (.int .i64))) x)).2) (fun i => lkL i (ls_curve_Torsion)) 100 Tryd.f8 (unc gs_curve_Torsion.length (Ag.mk ((.one (.int .i64))) x)).1 none (Pt.get ((.agg (.one (.agg (.cons (.ints .u64 5) (.cons (.ints .u64 5) (.cons (.ints .u64 5) (.one (.ints .u64 5)))))))))) = curve_Torsion x := by
  intro x; kernel_rfl
theorem s_curve_Torsion {w0 : World}  (hg : GlobOK Tryd.prog w0 gs_curve_Torsion) : SoundAt Tryd.prog w0 8 ct_curve_Torsion := by
  have hcs : ∀ x ∈ cs_curve_Torsion, SoundAt Tryd.prog w0 x.1 x.2 := by
    intro x hx
    simp [cs_curve_Torsion] at hx
  exact fn_printed hcs hg Tryd.func8 (by kernel_rfl) (by kernel_rfl) (S := 0) (fun w _ => loopsOK_nil _) (fun _ => rfl) (r_curve_Torsion)
theorem k_curve_Torsion {w0 : World}  (hg_curve_Torsion : GlobOK Tryd.prog w0 gs_curve_Torsion) : SoundAt Tryd.prog w0 8 ct_curve_Torsion :=
  s_curve_Torsion hg_curve_Torsion

def ct_curve_xOf (N : Nat) : Ct := fct (.one (.ints .u64 5)) (.tup (.cons (.ints .u64 5) (.one .bool))) fun x => curve_xOf N x
def cs_curve_xOf (N : Nat) : List (FuncId × Ct) := [(21, ct_field_Const), (22, ct_field_Elem_Mul), (24, ct_field_Elem_Add), (25, ct_field_Elem_Sub), (32, ct_field_Elem_Square), (33, (ct_field_SqrtRatio N))]
def gs_curve_xOf : List Gv := [⟨5, 28, (.ints .u64 5 [1, 0, 0, 0, 0])⟩]
noncomputable def ls_curve_xOf (N : Nat) : List (Nat × Lf) := []
theorem r_curve_xOf (N : Nat) : ∀ x, run Tryd.prog (fun g => lkG g (cs_curve_xOf N)) (glAt gs_curve_xOf 0) (gs_curve_xOf.length + 0) (memAt gs_curve_xOf 0 ++ (unc gs_curve_xOf.length (Ag.mk ((.one (.ints .u64 5))) x)).2) (fun i => lkL i (ls_curve_xOf N)) 100 Tryd.f50 (unc gs_curve_xOf.length (Ag.mk ((.one (.ints .u64 5))) x)).1 none (Pt.get ((.tup (.cons (.ints .u64 5) (.one .bool))))) = curve_xOf N x := by
  intro x; kernel_rfl
theorem s_curve_xOf {w0 : World} (N : Nat)  (h21 : SoundAt Tryd.prog w0 21 ct_field_Const) (h22 : SoundAt Tryd.prog w0 22 ct_field_Elem_Mul) (h24 : SoundAt Tryd.prog w0 24 ct_field_Elem_Add) (h25 : SoundAt Tryd.prog w0 25 ct_field_Elem_Sub) (h32 : SoundAt Tryd.prog w0 32 ct_field_Elem_Square) (h33 : SoundAt Tryd.prog w0 33 (ct_field_SqrtRatio N)) (hg : GlobOK Tryd.prog w0 gs_curve_xOf) : SoundAt Tryd.prog w0 50 (ct_curve_xOf N) := by
  have hcs : ∀ x ∈ cs_curve_xOf N, SoundAt Tryd.prog w0 x.1 x.2 := by
    intro x hx
    simp only [cs_curve_xOf, List.mem_cons, List.not_mem_nil, or_false] at hx
    rcases hx with rfl | rfl | rfl | rfl | rfl | rfl
    · exact h21
    · exact h22
    · exact h24
    · exact h25
    · exact h32
    · exact h33
  exact fn_printed hcs hg Tryd.func50 (by kernel_rfl) (by kernel_rfl) (S := 0) (fun w _ => loopsOK_nil _) (fun _ => rfl) (r_curve_xOf N)
theorem k_curve_xOf {w0 : World} (N : Nat)  (hg_field_Const : GlobOK Tryd.prog w0 gs_field_Const) (hg_field_SqrtRatio : GlobOK Tryd.prog w0 gs_field_SqrtRatio) (hg_curve_xOf : GlobOK Tryd.prog w0 gs_curve_xOf) : SoundAt Tryd.prog w0 50 (ct_curve_xOf N) :=
  s_curve_xOf N (k_field_Const hg_field_Const) (k_field_Elem_Mul) (k_field_Elem_Add) (k_field_Elem_Sub) (k_field_Elem_Square) (k_field_SqrtRatio N hg_field_SqrtRatio) hg_curve_xOf

def ct_curve_Point_TimesBytes (N : Nat) : Ct := fct (.cons (.agg (.one (.agg (.cons (.ints .u64 5) (.cons (.ints .u64 5) (.cons (.ints .u64 5) (.one (.ints .u64 5)))))))) (.one (.ints .u8 32))) (.agg (.one (.agg (.cons (.ints .u64 5) (.cons (.ints .u64 5) (.cons (.ints .u64 5) (.one (.ints .u64 5)))))))) fun x => curve_Point_TimesBytes N x.1 x.2
def cs_curve_Point_TimesBytes (N : Nat) : List (FuncId × Ct) := [(15, ct_curve_Point_Double), (16, ct_curve_Point_Add)]
def gs_curve_Point_TimesBytes : List Gv := []
def curve_Point_TimesBytes_l0_H : Fm ((Unit × Unit × Unit × Unit × Int)) (((List Int × List Int × List Int × List Int) × List Int × Unit)) := ⟨(.cons 2 (.lit (.ptr 0 [] 35)) (.cons 3 (.lit (.ptr 1 [] 23)) (.cons 4 (.lit (.ptr 2 [] 35)) (.cons 5 (.lit (.int .i64 (-1))) (.one 6 (.int .i64)))))), (.cons 0 (.agg (.one (.agg (.cons (.ints .u64 5) (.cons (.ints .u64 5) (.cons (.ints .u64 5) (.one (.ints .u64 5)))))))) (.cons 1 (.ints .u8 32) (.one 2 (.lit (.agg [(.agg [(.ints .u64 5 [0, 0, 0, 0, 0]), (.ints .u64 5 [0, 0, 0, 0, 0]), (.ints .u64 5 [0, 0, 0, 0, 0]), (.ints .u64 5 [0, 0, 0, 0, 0])])])))))⟩
def curve_Point_TimesBytes_l0_O : Fm ((Unit × Unit × Unit × Int)) (((List Int × List Int × List Int × List Int) × List Int × Unit)) := ⟨(.cons 2 (.lit (.ptr 0 [] 35)) (.cons 3 (.lit (.ptr 1 [] 23)) (.cons 4 (.lit (.ptr 2 [] 35)) (.one 5 (.int .i64))))), (.cons 0 (.agg (.one (.agg (.cons (.ints .u64 5) (.cons (.ints .u64 5) (.cons (.ints .u64 5) (.one (.ints .u64 5)))))))) (.cons 1 (.ints .u8 32) (.one 2 (.lit (.agg [(.agg [(.ints .u64 5 [0, 0, 0, 0, 0]), (.ints .u64 5 [0, 0, 0, 0, 0]), (.ints .u64 5 [0, 0, 0, 0, 0]), (.ints .u64 5 [0, 0, 0, 0, 0])])])))))⟩
def curve_Point_TimesBytes_l0_T : Fm (Unit) (Unit) := ⟨.nil, .nil⟩
def curve_Point_TimesBytes_l6_H : Fm ((Unit × Unit × Unit × Unit × Int)) ((List Int × Unit × ((List Int × List Int × List Int × List Int) × (List Int × List Int × List Int × List Int) × (List Int × List Int × List Int × List Int) × (List Int × List Int × List Int × List Int) × (List Int × List Int × List Int × List Int) × (List Int × List Int × List Int × List Int) × (List Int × List Int × List Int × List Int) × (List Int × List Int × List Int × List Int) × (List Int × List Int × List Int × List Int) × (List Int × List Int × List Int × List Int) × (List Int × List Int × List Int × List Int) × (List Int × List Int × List Int × List Int) × (List Int × List Int × List Int × List Int) × (List Int × List Int × List Int × List Int) × (List Int × List Int × List Int × List Int) × (List Int × List Int × List Int × List Int)) × (List Int × List Int × List Int × List Int))) := ⟨(.cons 3 (.lit (.ptr 1 [] 23)) (.cons 4 (.lit (.ptr 2 [] 35)) (.cons 9 (.lit (.ptr 5 [] 87)) (.cons 11 (.lit (.ptr 219 [] 35)) (.one 12 (.int .i64)))))), (.cons 1 (.ints .u8 32) (.cons 2 (.lit (.agg [(.agg [(.ints .u64 5 [0, 0, 0, 0, 0]), (.ints .u64 5 [0, 0, 0, 0, 0]), (.ints .u64 5 [0, 0, 0, 0, 0]), (.ints .u64 5 [0, 0, 0, 0, 0])])])) (.cons 5 (.agg (.cons (.agg (.one (.agg (.cons (.ints .u64 5) (.cons (.ints .u64 5) (.cons (.ints .u64 5) (.one (.ints .u64 5)))))))) (.cons (.agg (.one (.agg (.cons (.ints .u64 5) (.cons (.ints .u64 5) (.cons (.ints .u64 5) (.one (.ints .u64 5)))))))) (.cons (.agg (.one (.agg (.cons (.ints .u64 5) (.cons (.ints .u64 5) (.cons (.ints .u64 5) (.one (.ints .u64 5)))))))) (.cons (.agg (.one (.agg (.cons (.ints .u64 5) (.cons (.ints .u64 5) (.cons (.ints .u64 5) (.one (.ints .u64 5)))))))) (.cons (.agg (.one (.agg (.cons (.ints .u64 5) (.cons (.ints .u64 5) (.cons (.ints .u64 5) (.one (.ints .u64 5)))))))) (.cons (.agg (.one (.agg (.cons (.ints .u64 5) (.cons (.ints .u64 5) (.cons (.ints .u64 5) (.one (.ints .u64 5)))))))) (.cons (.agg (.one (.agg (.cons (.ints .u64 5) (.cons (.ints .u64 5) (.cons (.ints .u64 5) (.one (.ints .u64 5)))))))) (.cons (.agg (.one (.agg (.cons (.ints .u64 5) (.cons (.ints .u64 5) (.cons (.ints .u64 5) (.one (.ints .u64 5)))))))) (.cons (.agg (.one (.agg (.cons (.ints .u64 5) (.cons (.ints .u64 5) (.cons (.ints .u64 5) (.one (.ints .u64 5)))))))) (.cons (.agg (.one (.agg (.cons (.ints .u64 5) (.cons (.ints .u64 5) (.cons (.ints .u64 5) (.one (.ints .u64 5)))))))) (.cons (.agg (.one (.agg (.cons (.ints .u64 5) (.cons (.ints .u64 5) (.cons (.ints .u64 5) (.one (.ints .u64 5)))))))) (.cons (.agg (.one (.agg (.cons (.ints .u64 5) (.cons (.ints .u64 5) (.cons (.ints .u64 5) (.one (.ints .u64 5)))))))) (.cons (.agg (.one (.agg (.cons (.ints .u64 5) (.cons (.ints .u64 5) (.cons (.ints .u64 5) (.one (.ints .u64 5)))))))) (.cons (.agg (.one (.agg (.cons (.ints .u64 5) (.cons (.ints .u64 5) (.cons (.ints .u64 5) (.one (.ints .u64 5)))))))) (.cons (.agg (.one (.agg (.cons (.ints .u64 5) (.cons (.ints .u64 5) (.cons (.ints .u64 5) (.one (.ints .u64 5)))))))) (.one (.agg (.one (.agg (.cons (.ints .u64 5) (.cons (.ints .u64 5) (.cons (.ints .u64 5) (.one (.ints .u64 5))))))))))))))))))))))))) (.one 219 (.agg (.one (.agg (.cons (.ints .u64 5) (.cons (.ints .u64 5) (.cons (.ints .u64 5) (.one (.ints .u64 5))))))))))))⟩
def curve_Point_TimesBytes_l6_O : Fm ((Unit × Unit)) ((Unit × (List Int × List Int × List Int × List Int))) := ⟨(.cons 4 (.lit (.ptr 2 [] 35)) (.one 11 (.lit (.ptr 219 [] 35)))), (.cons 2 (.lit (.agg [(.agg [(.ints .u64 5 [0, 0, 0, 0, 0]), (.ints .u64 5 [0, 0, 0, 0, 0]), (.ints .u64 5 [0, 0, 0, 0, 0]), (.ints .u64 5 [0, 0, 0, 0, 0])])])) (.one 219 (.agg (.one (.agg (.cons (.ints .u64 5) (.cons (.ints .u64 5) (.cons (.ints .u64 5) (.one (.ints .u64 5))))))))))⟩
def curve_Point_TimesBytes_l6_T : Fm (Unit) (Unit) := ⟨.nil, .nil⟩
noncomputable def ls_curve_Point_TimesBytes (N : Nat) : List (Nat × Lf) := [(0, loopCt curve_Point_TimesBytes_l0_H curve_Point_TimesBytes_l0_O curve_Point_TimesBytes_l0_T 5 (curve_Point_TimesBytes_l0 N) N), (6, loopCt curve_Point_TimesBytes_l6_H curve_Point_TimesBytes_l6_O curve_Point_TimesBytes_l6_T 222 (curve_Point_TimesBytes_l6 N) N)]
theorem curve_Point_TimesBytes_l0_step (N : Nat) : ∀ v, exec Tryd.prog (cxOf Tryd.f34 (cs_curve_Point_TimesBytes N) gs_curve_Point_TimesBytes 0) (fun i => lkL i (ls_curve_Point_TimesBytes N)) 100 none (loopBody Tryd.f34 0) (curve_Point_TimesBytes_l0_H.st 5 v) (rdEnd curve_Point_TimesBytes_l0_H curve_Point_TimesBytes_l0_O curve_Point_TimesBytes_l0_T 5 0) = curve_Point_TimesBytes_l0 N v := by
  intro v; kernel_rfl
theorem curve_Point_TimesBytes_l6_step (N : Nat) : ∀ v, exec Tryd.prog (cxOf Tryd.f34 (cs_curve_Point_TimesBytes N) gs_curve_Point_TimesBytes 0) (fun i => lkL i (ls_curve_Point_TimesBytes N)) 100 none (loopBody Tryd.f34 6) (curve_Point_TimesBytes_l6_H.st 222 v) (rdEnd curve_Point_TimesBytes_l6_H curve_Point_TimesBytes_l6_O curve_Point_TimesBytes_l6_T 222 6) = curve_Point_TimesBytes_l6 N v := by
  intro v; kernel_rfl
theorem r_curve_Point_TimesBytes (N : Nat) : ∀ x, run Tryd.prog (fun g => lkG g (cs_curve_Point_TimesBytes N)) (glAt gs_curve_Point_TimesBytes 0) (gs_curve_Point_TimesBytes.length + 0) (memAt gs_curve_Point_TimesBytes 0 ++ (unc gs_curve_Point_TimesBytes.length (Ag.mk ((.cons (.agg (.one (.agg (.cons (.ints .u64 5) (.cons (.ints .u64 5) (.cons (.ints .u64 5) (.one (.ints .u64 5)))))))) (.one (.ints .u8 32)))) x)).2) (fun i => lkL i (ls_curve_Point_TimesBytes N)) 100 Tryd.f34 (unc gs_curve_Point_TimesBytes.length (Ag.mk ((.cons (.agg (.one (.agg (.cons (.ints .u64 5) (.cons (.ints .u64 5) (.cons (.ints .u64 5) (.one (.ints .u64 5)))))))) (.one (.ints .u8 32)))) x)).1 none (Pt.get ((.agg (.one (.agg (.cons (.ints .u64 5) (.cons (.ints .u64 5) (.cons (.ints .u64 5) (.one (.ints .u64 5)))))))))) = curve_Point_TimesBytes N x.1 x.2 := by
  intro x; kernel_rfl
theorem s_curve_Point_TimesBytes {w0 : World} (N : Nat)  (h15 : SoundAt Tryd.prog w0 15 ct_curve_Point_Double) (h16 : SoundAt Tryd.prog w0 16 ct_curve_Point_Add) : SoundAt Tryd.prog w0 34 (ct_curve_Point_TimesBytes N) := by
  have hcs : ∀ x ∈ cs_curve_Point_TimesBytes N, SoundAt Tryd.prog w0 x.1 x.2 := by
    intro x hx
    simp only [cs_curve_Point_TimesBytes, List.mem_cons, List.not_mem_nil, or_false] at hx
    rcases hx with rfl | rfl
    · exact h15
    · exact h16
  have L0 : ∀ w, RowKit.Below w0.heap.size w0 w → LoopOK Tryd.prog (cxOf Tryd.f34 (cs_curve_Point_TimesBytes N) gs_curve_Point_TimesBytes 0) w 0 (.loop (loopBody Tryd.f34 0)) (loopCt curve_Point_TimesBytes_l0_H curve_Point_TimesBytes_l0_O curve_Point_TimesBytes_l0_T 5 (curve_Point_TimesBytes_l0 N) N) :=
    loop_printed hcs (ls := ls_curve_Point_TimesBytes N) (n := 100) (by kernel_rfl) (curve_Point_TimesBytes_l0_step N) N fun w hw => loopsOK_list (by
      intro x hx
      simp only [ls_curve_Point_TimesBytes, List.mem_cons, List.not_mem_nil, or_false] at hx
      rcases hx with rfl | rfl
      · exact .inl (by kernel_rfl)
      · exact .inl (by kernel_rfl)
    )
  have L6 : ∀ w, RowKit.Below w0.heap.size w0 w → LoopOK Tryd.prog (cxOf Tryd.f34 (cs_curve_Point_TimesBytes N) gs_curve_Point_TimesBytes 0) w 6 (.loop (loopBody Tryd.f34 6)) (loopCt curve_Point_TimesBytes_l6_H curve_Point_TimesBytes_l6_O curve_Point_TimesBytes_l6_T 222 (curve_Point_TimesBytes_l6 N) N) :=
    loop_printed hcs (ls := ls_curve_Point_TimesBytes N) (n := 100) (by kernel_rfl) (curve_Point_TimesBytes_l6_step N) N fun w hw => loopsOK_list (by
      intro x hx
      simp only [ls_curve_Point_TimesBytes, List.mem_cons, List.not_mem_nil, or_false] at hx
      rcases hx with rfl | rfl
      · exact .inl (by kernel_rfl)
      · exact .inl (by kernel_rfl)
    )
  exact fn_printed hcs (glob_nil _ _) Tryd.func34 (by kernel_rfl) (by kernel_rfl) (S := 0) (fun w hw => loopsOK_list (by
    intro x hx
    simp only [ls_curve_Point_TimesBytes, List.mem_cons, List.not_mem_nil, or_false] at hx
    rcases hx with rfl | rfl
    · exact .inr ⟨_, by kernel_rfl, L0 w hw⟩
    · exact .inr ⟨_, by kernel_rfl, L6 w hw⟩
  )) (fun _ => rfl) (r_curve_Point_TimesBytes N)
theorem k_curve_Point_TimesBytes {w0 : World} (N : Nat)  (hg_curve_place_whole : GlobOK Tryd.prog w0 gs_curve_place_whole) (hg_curve_Point_Add : GlobOK Tryd.prog w0 gs_curve_Point_Add) : SoundAt Tryd.prog w0 34 (ct_curve_Point_TimesBytes N) :=
  s_curve_Point_TimesBytes N (k_curve_Point_Double hg_curve_place_whole) (k_curve_Point_Add hg_curve_place_whole hg_curve_Point_Add)

def ct_curve_Point_Free (N : Nat) : Ct := fct (.one (.agg (.one (.agg (.cons (.ints .u64 5) (.cons (.ints .u64 5) (.cons (.ints .u64 5) (.one (.ints .u64 5))))))))) .bool fun x => curve_Point_Free N x
def cs_curve_Point_Free (N : Nat) : List (FuncId × Ct) := [(13, ct_curve_Point_Same), (34, (ct_curve_Point_TimesBytes N))]
def gs_curve_Point_Free : List Gv := [⟨2, 23, (.ints .u8 32 [237, 211, 245, 92, 26, 99, 18, 88, 214, 156, 247, 162, 222, 249, 222, 20, 0, 0, 0, 0, 0, 0, 0, 0, 0, 0, 0, 0, 0, 0, 0, 16])⟩]
noncomputable def ls_curve_Point_Free (N : Nat) : List (Nat × Lf) := []
theorem r_curve_Point_Free (N : Nat) : ∀ x, run Tryd.prog (fun g => lkG g (cs_curve_Point_Free N)) (glAt gs_curve_Point_Free 0) (gs_curve_Point_Free.length + 0) (memAt gs_curve_Point_Free 0 ++ (unc gs_curve_Point_Free.length (Ag.mk ((.one (.agg (.one (.agg (.cons (.ints .u64 5) (.cons (.ints .u64 5) (.cons (.ints .u64 5) (.one (.ints .u64 5)))))))))) x)).2) (fun i => lkL i (ls_curve_Point_Free N)) 100 Tryd.f14 (unc gs_curve_Point_Free.length (Ag.mk ((.one (.agg (.one (.agg (.cons (.ints .u64 5) (.cons (.ints .u64 5) (.cons (.ints .u64 5) (.one (.ints .u64 5)))))))))) x)).1 none (Pt.get (.bool)) = curve_Point_Free N x := by
  intro x; kernel_rfl
theorem s_curve_Point_Free {w0 : World} (N : Nat)  (h13 : SoundAt Tryd.prog w0 13 ct_curve_Point_Same) (h34 : SoundAt Tryd.prog w0 34 (ct_curve_Point_TimesBytes N)) (hg : GlobOK Tryd.prog w0 gs_curve_Point_Free) : SoundAt Tryd.prog w0 14 (ct_curve_Point_Free N) := by
  have hcs : ∀ x ∈ cs_curve_Point_Free N, SoundAt Tryd.prog w0 x.1 x.2 := by
    intro x hx
    simp only [cs_curve_Point_Free, List.mem_cons, List.not_mem_nil, or_false] at hx
    rcases hx with rfl | rfl
    · exact h13
    · exact h34
  exact fn_printed hcs hg Tryd.func14 (by kernel_rfl) (by kernel_rfl) (S := 0) (fun w _ => loopsOK_nil _) (fun _ => rfl) (r_curve_Point_Free N)
theorem k_curve_Point_Free {w0 : World} (N : Nat)  (hg_curve_place_whole : GlobOK Tryd.prog w0 gs_curve_place_whole) (hg_curve_Point_Add : GlobOK Tryd.prog w0 gs_curve_Point_Add) (hg_curve_Point_Free : GlobOK Tryd.prog w0 gs_curve_Point_Free) : SoundAt Tryd.prog w0 14 (ct_curve_Point_Free N) :=
  s_curve_Point_Free N (k_curve_Point_Same hg_curve_place_whole) (k_curve_Point_TimesBytes N hg_curve_place_whole hg_curve_Point_Add) hg_curve_Point_Free

def ct_curve_Point_Compress (N : Nat) : Ct := fct (.one (.agg (.one (.agg (.cons (.ints .u64 5) (.cons (.ints .u64 5) (.cons (.ints .u64 5) (.one (.ints .u64 5))))))))) (.ints .u8 32) fun x => curve_Point_Compress N x
def cs_curve_Point_Compress (N : Nat) : List (FuncId × Ct) := [(9, (ct_curve_Point_Affine N)), (10, ct_field_Elem_Negative), (30, ct_field_Elem_Encode)]
def gs_curve_Point_Compress : List Gv := []
noncomputable def is_curve_Point_Compress (N : Nat) : List (FuncId × Inl) := ((52, inlOf Tryd.prog (cs_curve_Point_Compress N) gs_curve_Point_Compress 0 100 [] Tryd.f52) :: [])
theorem isok_curve_Point_Compress (N : Nat) : InlAll Tryd.prog (cs_curve_Point_Compress N) gs_curve_Point_Compress 0 100 (is_curve_Point_Compress N) := ⟨⟨Tryd.f52, Tryd.func52, by kernel_rfl, by kernel_rfl, rfl⟩, trivial⟩
noncomputable def ls_curve_Point_Compress (N : Nat) : List (Nat × Lf) := []
theorem r_curve_Point_Compress (N : Nat) : ∀ x, run Tryd.prog (fun g => lkG g (cs_curve_Point_Compress N)) (glAt gs_curve_Point_Compress 0) (gs_curve_Point_Compress.length + 0) (memAt gs_curve_Point_Compress 0 ++ (unc gs_curve_Point_Compress.length (Ag.mk ((.one (.agg (.one (.agg (.cons (.ints .u64 5) (.cons (.ints .u64 5) (.cons (.ints .u64 5) (.one (.ints .u64 5)))))))))) x)).2) (fun i => lkL i (ls_curve_Point_Compress N)) 100 Tryd.f28 (unc gs_curve_Point_Compress.length (Ag.mk ((.one (.agg (.one (.agg (.cons (.ints .u64 5) (.cons (.ints .u64 5) (.cons (.ints .u64 5) (.one (.ints .u64 5)))))))))) x)).1 none (Pt.get ((.ints .u8 32))) (fun g => lkI g (is_curve_Point_Compress N)) = curve_Point_Compress N x := by
  intro x; kernel_rfl
theorem s_curve_Point_Compress {w0 : World} (N : Nat)  (h9 : SoundAt Tryd.prog w0 9 (ct_curve_Point_Affine N)) (h10 : SoundAt Tryd.prog w0 10 ct_field_Elem_Negative) (h30 : SoundAt Tryd.prog w0 30 ct_field_Elem_Encode) : SoundAt Tryd.prog w0 28 (ct_curve_Point_Compress N) := by
  have hcs : ∀ x ∈ cs_curve_Point_Compress N, SoundAt Tryd.prog w0 x.1 x.2 := by
    intro x hx
    simp only [cs_curve_Point_Compress, List.mem_cons, List.not_mem_nil, or_false] at hx
    rcases hx with rfl | rfl | rfl
    · exact h9
    · exact h10
    · exact h30
  exact fn_printedI hcs (glob_nil _ _) (isok_curve_Point_Compress N) Tryd.func28 (by kernel_rfl) (by kernel_rfl) (S := 0) (fun w _ => loopsOK_nil _) (fun _ => rfl) (r_curve_Point_Compress N)
theorem k_curve_Point_Compress {w0 : World} (N : Nat)  (hg_curve_place_whole : GlobOK Tryd.prog w0 gs_curve_place_whole) : SoundAt Tryd.prog w0 28 (ct_curve_Point_Compress N) :=
  s_curve_Point_Compress N (k_curve_Point_Affine N hg_curve_place_whole) (k_field_Elem_Negative) (k_field_Elem_Encode)

def ct_curve_Decompress (N : Nat) : Ct := fct (.one (.ints .u8 32)) (.tup (.cons (.agg (.one (.agg (.cons (.ints .u64 5) (.cons (.ints .u64 5) (.cons (.ints .u64 5) (.one (.ints .u64 5)))))))) (.one (.int .i64)))) fun x => curve_Decompress N x
def cs_curve_Decompress (N : Nat) : List (FuncId × Ct) := [(11, ct_field_Elem_IsZero), (31, ct_field_Decode), (44, ct_field_Elem_Neg), (50, (ct_curve_xOf N)), (51, ct_curve_at)]
def gs_curve_Decompress : List Gv := []
noncomputable def is_curve_Decompress (N : Nat) : List (FuncId × Inl) := ((49, inlOf Tryd.prog (cs_curve_Decompress N) gs_curve_Decompress 0 100 [] Tryd.f49) :: [])
theorem isok_curve_Decompress (N : Nat) : InlAll Tryd.prog (cs_curve_Decompress N) gs_curve_Decompress 0 100 (is_curve_Decompress N) := ⟨⟨Tryd.f49, Tryd.func49, by kernel_rfl, by kernel_rfl, rfl⟩, trivial⟩
noncomputable def ls_curve_Decompress (N : Nat) : List (Nat × Lf) := []
theorem r_curve_Decompress (N : Nat) : ∀ x, run Tryd.prog (fun g => lkG g (cs_curve_Decompress N)) (glAt gs_curve_Decompress 0) (gs_curve_Decompress.length + 0) (memAt gs_curve_Decompress 0 ++ (unc gs_curve_Decompress.length (Ag.mk ((.one (.ints .u8 32))) x)).2) (fun i => lkL i (ls_curve_Decompress N)) 100 Tryd.f27 (unc gs_curve_Decompress.length (Ag.mk ((.one (.ints .u8 32))) x)).1 none (Pt.get ((.tup (.cons (.agg (.one (.agg (.cons (.ints .u64 5) (.cons (.ints .u64 5) (.cons (.ints .u64 5) (.one (.ints .u64 5)))))))) (.one (.int .i64)))))) (fun g => lkI g (is_curve_Decompress N)) = curve_Decompress N x := by
  intro x; kernel_rfl
theorem s_curve_Decompress {w0 : World} (N : Nat)  (h11 : SoundAt Tryd.prog w0 11 ct_field_Elem_IsZero) (h31 : SoundAt Tryd.prog w0 31 ct_field_Decode) (h44 : SoundAt Tryd.prog w0 44 ct_field_Elem_Neg) (h50 : SoundAt Tryd.prog w0 50 (ct_curve_xOf N)) (h51 : SoundAt Tryd.prog w0 51 ct_curve_at) : SoundAt Tryd.prog w0 27 (ct_curve_Decompress N) := by
  have hcs : ∀ x ∈ cs_curve_Decompress N, SoundAt Tryd.prog w0 x.1 x.2 := by
    intro x hx
    simp only [cs_curve_Decompress, List.mem_cons, List.not_mem_nil, or_false] at hx
    rcases hx with rfl | rfl | rfl | rfl | rfl
    · exact h11
    · exact h31
    · exact h44
    · exact h50
    · exact h51
  exact fn_printedI hcs (glob_nil _ _) (isok_curve_Decompress N) Tryd.func27 (by kernel_rfl) (by kernel_rfl) (S := 0) (fun w _ => loopsOK_nil _) (fun _ => rfl) (r_curve_Decompress N)
theorem k_curve_Decompress {w0 : World} (N : Nat)  (hg_field_Const : GlobOK Tryd.prog w0 gs_field_Const) (hg_field_SqrtRatio : GlobOK Tryd.prog w0 gs_field_SqrtRatio) (hg_curve_xOf : GlobOK Tryd.prog w0 gs_curve_xOf) (hg_curve_at : GlobOK Tryd.prog w0 gs_curve_at) : SoundAt Tryd.prog w0 27 (ct_curve_Decompress N) :=
  s_curve_Decompress N (k_field_Elem_IsZero) (k_field_Decode) (k_field_Elem_Neg) (k_curve_xOf N hg_field_Const hg_field_SqrtRatio hg_curve_xOf) (k_curve_at hg_curve_at)

def ct_veillaw04_around : Ct := fct (.cons (.int .i64) (.one (.int .i64))) (.int .i64) fun x => veillaw04_around x.1 x.2
def cs_veillaw04_around : List (FuncId × Ct) := []
def gs_veillaw04_around : List Gv := []
noncomputable def ls_veillaw04_around : List (Nat × Lf) := []
theorem r_veillaw04_around : ∀ x, run Tryd.prog (fun g => lkG g (cs_veillaw04_around)) (glAt gs_veillaw04_around 0) (gs_veillaw04_around.length + 0) (memAt gs_veillaw04_around 0 ++ (unc gs_veillaw04_around.length (Ag.mk ((.cons (.int .i64) (.one (.int .i64)))) x)).2) (fun i => lkL i (ls_veillaw04_around)) 100 Tryd.f17 (unc gs_veillaw04_around.length (Ag.mk ((.cons (.int .i64) (.one (.int .i64)))) x)).1 none (Pt.get ((.int .i64))) = veillaw04_around x.1 x.2 := by
  intro x; kernel_rfl
theorem s_veillaw04_around {w0 : World}  : SoundAt Tryd.prog w0 17 ct_veillaw04_around := by
  have hcs : ∀ x ∈ cs_veillaw04_around, SoundAt Tryd.prog w0 x.1 x.2 := by
    intro x hx
    simp [cs_veillaw04_around] at hx
  exact fn_printed hcs (glob_nil _ _) Tryd.func17 (by kernel_rfl) (by kernel_rfl) (S := 0) (fun w _ => loopsOK_nil _) (fun _ => rfl) (r_veillaw04_around)
theorem k_veillaw04_around {w0 : World}  : SoundAt Tryd.prog w0 17 ct_veillaw04_around :=
  s_veillaw04_around

def ct_veillaw04_on (N : Nat) : Ct := fct (.one (.agg (.one (.agg (.cons (.ints .u64 5) (.cons (.ints .u64 5) (.cons (.ints .u64 5) (.one (.ints .u64 5))))))))) .bool fun x => veillaw04_on N x
def cs_veillaw04_on (N : Nat) : List (FuncId × Ct) := [(9, (ct_curve_Point_Affine N)), (21, ct_field_Const), (22, ct_field_Elem_Mul), (23, ct_field_Elem_One), (24, ct_field_Elem_Add), (25, ct_field_Elem_Sub), (32, ct_field_Elem_Square), (42, ct_field_Elem_Least)]
def gs_veillaw04_on : List Gv := []
noncomputable def ls_veillaw04_on (N : Nat) : List (Nat × Lf) := []
theorem r_veillaw04_on (N : Nat) : ∀ x, run Tryd.prog (fun g => lkG g (cs_veillaw04_on N)) (glAt gs_veillaw04_on 0) (gs_veillaw04_on.length + 0) (memAt gs_veillaw04_on 0 ++ (unc gs_veillaw04_on.length (Ag.mk ((.one (.agg (.one (.agg (.cons (.ints .u64 5) (.cons (.ints .u64 5) (.cons (.ints .u64 5) (.one (.ints .u64 5)))))))))) x)).2) (fun i => lkL i (ls_veillaw04_on N)) 100 Tryd.f12 (unc gs_veillaw04_on.length (Ag.mk ((.one (.agg (.one (.agg (.cons (.ints .u64 5) (.cons (.ints .u64 5) (.cons (.ints .u64 5) (.one (.ints .u64 5)))))))))) x)).1 none (Pt.get (.bool)) = veillaw04_on N x := by
  intro x; kernel_rfl
theorem s_veillaw04_on {w0 : World} (N : Nat)  (h9 : SoundAt Tryd.prog w0 9 (ct_curve_Point_Affine N)) (h21 : SoundAt Tryd.prog w0 21 ct_field_Const) (h22 : SoundAt Tryd.prog w0 22 ct_field_Elem_Mul) (h23 : SoundAt Tryd.prog w0 23 ct_field_Elem_One) (h24 : SoundAt Tryd.prog w0 24 ct_field_Elem_Add) (h25 : SoundAt Tryd.prog w0 25 ct_field_Elem_Sub) (h32 : SoundAt Tryd.prog w0 32 ct_field_Elem_Square) (h42 : SoundAt Tryd.prog w0 42 ct_field_Elem_Least) : SoundAt Tryd.prog w0 12 (ct_veillaw04_on N) := by
  have hcs : ∀ x ∈ cs_veillaw04_on N, SoundAt Tryd.prog w0 x.1 x.2 := by
    intro x hx
    simp only [cs_veillaw04_on, List.mem_cons, List.not_mem_nil, or_false] at hx
    rcases hx with rfl | rfl | rfl | rfl | rfl | rfl | rfl | rfl
    · exact h9
    · exact h21
    · exact h22
    · exact h23
    · exact h24
    · exact h25
    · exact h32
    · exact h42
  exact fn_printed hcs (glob_nil _ _) Tryd.func12 (by kernel_rfl) (by kernel_rfl) (S := 0) (fun w _ => loopsOK_nil _) (fun _ => rfl) (r_veillaw04_on N)
theorem k_veillaw04_on {w0 : World} (N : Nat)  (hg_curve_place_whole : GlobOK Tryd.prog w0 gs_curve_place_whole) (hg_field_Const : GlobOK Tryd.prog w0 gs_field_Const) : SoundAt Tryd.prog w0 12 (ct_veillaw04_on N) :=
  s_veillaw04_on N (k_curve_Point_Affine N hg_curve_place_whole) (k_field_Const hg_field_Const) (k_field_Elem_Mul) (k_field_Elem_One) (k_field_Elem_Add) (k_field_Elem_Sub) (k_field_Elem_Square) (k_field_Elem_Least)

def ct_veillaw04_live (N : Nat) : Ct := fct .nil .bool fun x => veillaw04_live N
def cs_veillaw04_live (N : Nat) : List (FuncId × Ct) := [(8, ct_curve_Torsion), (13, ct_curve_Point_Same), (14, (ct_curve_Point_Free N)), (15, ct_curve_Point_Double), (34, (ct_curve_Point_TimesBytes N)), (39, ct_curve_Base)]
def gs_veillaw04_live : List Gv := [⟨0, 22, (.ints .u8 32 [237, 211, 245, 92, 26, 99, 18, 88, 214, 156, 247, 162, 222, 249, 222, 20, 0, 0, 0, 0, 0, 0, 0, 0, 0, 0, 0, 0, 0, 0, 0, 16])⟩]
noncomputable def ls_veillaw04_live (N : Nat) : List (Nat × Lf) := []
theorem r_veillaw04_live (N : Nat) : ∀ x, run Tryd.prog (fun g => lkG g (cs_veillaw04_live N)) (glAt gs_veillaw04_live 0) (gs_veillaw04_live.length + 0) (memAt gs_veillaw04_live 0 ++ (unc gs_veillaw04_live.length (Ag.mk (.nil) x)).2) (fun i => lkL i (ls_veillaw04_live N)) 100 Tryd.f7 (unc gs_veillaw04_live.length (Ag.mk (.nil) x)).1 none (Pt.get (.bool)) = veillaw04_live N := by
  intro x; kernel_rfl
theorem s_veillaw04_live {w0 : World} (N : Nat)  (h8 : SoundAt Tryd.prog w0 8 ct_curve_Torsion) (h13 : SoundAt Tryd.prog w0 13 ct_curve_Point_Same) (h14 : SoundAt Tryd.prog w0 14 (ct_curve_Point_Free N)) (h15 : SoundAt Tryd.prog w0 15 ct_curve_Point_Double) (h34 : SoundAt Tryd.prog w0 34 (ct_curve_Point_TimesBytes N)) (h39 : SoundAt Tryd.prog w0 39 ct_curve_Base) (hg : GlobOK Tryd.prog w0 gs_veillaw04_live) : SoundAt Tryd.prog w0 7 (ct_veillaw04_live N) := by
  have hcs : ∀ x ∈ cs_veillaw04_live N, SoundAt Tryd.prog w0 x.1 x.2 := by
    intro x hx
    simp only [cs_veillaw04_live, List.mem_cons, List.not_mem_nil, or_false] at hx
    rcases hx with rfl | rfl | rfl | rfl | rfl | rfl
    · exact h8
    · exact h13
    · exact h14
    · exact h15
    · exact h34
    · exact h39
  exact fn_printed hcs hg Tryd.func7 (by kernel_rfl) (by kernel_rfl) (S := 0) (fun w _ => loopsOK_nil _) (fun _ => rfl) (r_veillaw04_live N)
theorem k_veillaw04_live {w0 : World} (N : Nat)  (hg_curve_Torsion : GlobOK Tryd.prog w0 gs_curve_Torsion) (hg_curve_place_whole : GlobOK Tryd.prog w0 gs_curve_place_whole) (hg_curve_Point_Add : GlobOK Tryd.prog w0 gs_curve_Point_Add) (hg_curve_Point_Free : GlobOK Tryd.prog w0 gs_curve_Point_Free) (hg_curve_Base : GlobOK Tryd.prog w0 gs_curve_Base) (hg_veillaw04_live : GlobOK Tryd.prog w0 gs_veillaw04_live) : SoundAt Tryd.prog w0 7 (ct_veillaw04_live N) :=
  s_veillaw04_live N (k_curve_Torsion hg_curve_Torsion) (k_curve_Point_Same hg_curve_place_whole) (k_curve_Point_Free N hg_curve_place_whole hg_curve_Point_Add hg_curve_Point_Free) (k_curve_Point_Double hg_curve_place_whole) (k_curve_Point_TimesBytes N hg_curve_place_whole hg_curve_Point_Add) (k_curve_Base hg_curve_Base) hg_veillaw04_live

def ct_veillaw04_point (N : Nat) : Ct := fct (.one (.agg (.cons (.int .i64) (.cons (.int .i64) (.cons (.int .i64) (.cons (.int .i64) (.cons (.ints .u8 32) (.cons (.ints .u64 4) (.cons (.ints .u64 5) (.one (.ints .u64 5))))))))))) (.agg (.one (.agg (.cons (.ints .u64 5) (.cons (.ints .u64 5) (.cons (.ints .u64 5) (.one (.ints .u64 5)))))))) fun x => veillaw04_point N x
def cs_veillaw04_point (N : Nat) : List (FuncId × Ct) := [(8, ct_curve_Torsion), (16, ct_curve_Point_Add), (17, ct_veillaw04_around), (27, (ct_curve_Decompress N)), (29, ct_curve_FromAffine), (34, (ct_curve_Point_TimesBytes N)), (39, ct_curve_Base)]
def gs_veillaw04_point : List Gv := []
noncomputable def ls_veillaw04_point (N : Nat) : List (Nat × Lf) := []
theorem r_veillaw04_point (N : Nat) : ∀ x, run Tryd.prog (fun g => lkG g (cs_veillaw04_point N)) (glAt gs_veillaw04_point 0) (gs_veillaw04_point.length + 0) (memAt gs_veillaw04_point 0 ++ (unc gs_veillaw04_point.length (Ag.mk ((.one (.agg (.cons (.int .i64) (.cons (.int .i64) (.cons (.int .i64) (.cons (.int .i64) (.cons (.ints .u8 32) (.cons (.ints .u64 4) (.cons (.ints .u64 5) (.one (.ints .u64 5)))))))))))) x)).2) (fun i => lkL i (ls_veillaw04_point N)) 100 Tryd.f18 (unc gs_veillaw04_point.length (Ag.mk ((.one (.agg (.cons (.int .i64) (.cons (.int .i64) (.cons (.int .i64) (.cons (.int .i64) (.cons (.ints .u8 32) (.cons (.ints .u64 4) (.cons (.ints .u64 5) (.one (.ints .u64 5)))))))))))) x)).1 none (Pt.get ((.agg (.one (.agg (.cons (.ints .u64 5) (.cons (.ints .u64 5) (.cons (.ints .u64 5) (.one (.ints .u64 5)))))))))) = veillaw04_point N x := by
  intro x; kernel_rfl
theorem s_veillaw04_point {w0 : World} (N : Nat)  (h8 : SoundAt Tryd.prog w0 8 ct_curve_Torsion) (h16 : SoundAt Tryd.prog w0 16 ct_curve_Point_Add) (h17 : SoundAt Tryd.prog w0 17 ct_veillaw04_around) (h27 : SoundAt Tryd.prog w0 27 (ct_curve_Decompress N)) (h29 : SoundAt Tryd.prog w0 29 ct_curve_FromAffine) (h34 : SoundAt Tryd.prog w0 34 (ct_curve_Point_TimesBytes N)) (h39 : SoundAt Tryd.prog w0 39 ct_curve_Base) : SoundAt Tryd.prog w0 18 (ct_veillaw04_point N) := by
  have hcs : ∀ x ∈ cs_veillaw04_point N, SoundAt Tryd.prog w0 x.1 x.2 := by
    intro x hx
    simp only [cs_veillaw04_point, List.mem_cons, List.not_mem_nil, or_false] at hx
    rcases hx with rfl | rfl | rfl | rfl | rfl | rfl | rfl
    · exact h8
    · exact h16
    · exact h17
    · exact h27
    · exact h29
    · exact h34
    · exact h39
  exact fn_printed hcs (glob_nil _ _) Tryd.func18 (by kernel_rfl) (by kernel_rfl) (S := 0) (fun w _ => loopsOK_nil _) (fun _ => rfl) (r_veillaw04_point N)
theorem k_veillaw04_point {w0 : World} (N : Nat)  (hg_curve_Torsion : GlobOK Tryd.prog w0 gs_curve_Torsion) (hg_curve_place_whole : GlobOK Tryd.prog w0 gs_curve_place_whole) (hg_curve_Point_Add : GlobOK Tryd.prog w0 gs_curve_Point_Add) (hg_field_Const : GlobOK Tryd.prog w0 gs_field_Const) (hg_field_SqrtRatio : GlobOK Tryd.prog w0 gs_field_SqrtRatio) (hg_curve_xOf : GlobOK Tryd.prog w0 gs_curve_xOf) (hg_curve_at : GlobOK Tryd.prog w0 gs_curve_at) (hg_curve_FromAffine : GlobOK Tryd.prog w0 gs_curve_FromAffine) (hg_curve_Base : GlobOK Tryd.prog w0 gs_curve_Base) : SoundAt Tryd.prog w0 18 (ct_veillaw04_point N) :=
  s_veillaw04_point N (k_curve_Torsion hg_curve_Torsion) (k_curve_Point_Add hg_curve_place_whole hg_curve_Point_Add) (k_veillaw04_around) (k_curve_Decompress N hg_field_Const hg_field_SqrtRatio hg_curve_xOf hg_curve_at) (k_curve_FromAffine hg_field_Const hg_curve_at hg_curve_FromAffine) (k_curve_Point_TimesBytes N hg_curve_place_whole hg_curve_Point_Add) (k_curve_Base hg_curve_Base)

def ct_veillaw04_CurveBack (N : Nat) : Ct := fct (.cons (.agg (.cons (.int .i64) (.cons (.int .i64) (.cons (.int .i64) (.cons (.int .i64) (.cons (.ints .u8 32) (.cons (.ints .u64 4) (.cons (.ints .u64 5) (.one (.ints .u64 5)))))))))) (.one (.ints .u8 32))) .bool fun x => veillaw04_CurveBack N x.1 x.2
def cs_veillaw04_CurveBack (N : Nat) : List (FuncId × Ct) := [(7, (ct_veillaw04_live N)), (9, (ct_curve_Point_Affine N)), (10, ct_field_Elem_Negative), (12, (ct_veillaw04_on N)), (13, ct_curve_Point_Same), (18, (ct_veillaw04_point N)), (21, ct_field_Const), (22, ct_field_Elem_Mul), (23, ct_field_Elem_One), (24, ct_field_Elem_Add), (25, ct_field_Elem_Sub), (27, (ct_curve_Decompress N)), (28, (ct_curve_Point_Compress N)), (29, ct_curve_FromAffine), (30, ct_field_Elem_Encode), (31, ct_field_Decode), (32, ct_field_Elem_Square), (33, (ct_field_SqrtRatio N))]
def gs_veillaw04_CurveBack : List Gv := []
noncomputable def ls_veillaw04_CurveBack (N : Nat) : List (Nat × Lf) := []
theorem r_veillaw04_CurveBack (N : Nat) : ∀ x, run Tryd.prog (fun g => lkG g (cs_veillaw04_CurveBack N)) (glAt gs_veillaw04_CurveBack 0) (gs_veillaw04_CurveBack.length + 0) (memAt gs_veillaw04_CurveBack 0 ++ (unc gs_veillaw04_CurveBack.length (Ag.mk ((.cons (.agg (.cons (.int .i64) (.cons (.int .i64) (.cons (.int .i64) (.cons (.int .i64) (.cons (.ints .u8 32) (.cons (.ints .u64 4) (.cons (.ints .u64 5) (.one (.ints .u64 5)))))))))) (.one (.ints .u8 32)))) x)).2) (fun i => lkL i (ls_veillaw04_CurveBack N)) 100 Tryd.f5 (unc gs_veillaw04_CurveBack.length (Ag.mk ((.cons (.agg (.cons (.int .i64) (.cons (.int .i64) (.cons (.int .i64) (.cons (.int .i64) (.cons (.ints .u8 32) (.cons (.ints .u64 4) (.cons (.ints .u64 5) (.one (.ints .u64 5)))))))))) (.one (.ints .u8 32)))) x)).1 none (Pt.get (.bool)) = veillaw04_CurveBack N x.1 x.2 := by
  intro x; kernel_rfl
theorem s_veillaw04_CurveBack {w0 : World} (N : Nat)  (h7 : SoundAt Tryd.prog w0 7 (ct_veillaw04_live N)) (h9 : SoundAt Tryd.prog w0 9 (ct_curve_Point_Affine N)) (h10 : SoundAt Tryd.prog w0 10 ct_field_Elem_Negative) (h12 : SoundAt Tryd.prog w0 12 (ct_veillaw04_on N)) (h13 : SoundAt Tryd.prog w0 13 ct_curve_Point_Same) (h18 : SoundAt Tryd.prog w0 18 (ct_veillaw04_point N)) (h21 : SoundAt Tryd.prog w0 21 ct_field_Const) (h22 : SoundAt Tryd.prog w0 22 ct_field_Elem_Mul) (h23 : SoundAt Tryd.prog w0 23 ct_field_Elem_One) (h24 : SoundAt Tryd.prog w0 24 ct_field_Elem_Add) (h25 : SoundAt Tryd.prog w0 25 ct_field_Elem_Sub) (h27 : SoundAt Tryd.prog w0 27 (ct_curve_Decompress N)) (h28 : SoundAt Tryd.prog w0 28 (ct_curve_Point_Compress N)) (h29 : SoundAt Tryd.prog w0 29 ct_curve_FromAffine) (h30 : SoundAt Tryd.prog w0 30 ct_field_Elem_Encode) (h31 : SoundAt Tryd.prog w0 31 ct_field_Decode) (h32 : SoundAt Tryd.prog w0 32 ct_field_Elem_Square) (h33 : SoundAt Tryd.prog w0 33 (ct_field_SqrtRatio N)) : SoundAt Tryd.prog w0 5 (ct_veillaw04_CurveBack N) := by
  have hcs : ∀ x ∈ cs_veillaw04_CurveBack N, SoundAt Tryd.prog w0 x.1 x.2 := by
    intro x hx
    simp only [cs_veillaw04_CurveBack, List.mem_cons, List.not_mem_nil, or_false] at hx
    rcases hx with rfl | rfl | rfl | rfl | rfl | rfl | rfl | rfl | rfl | rfl | rfl | rfl | rfl | rfl | rfl | rfl | rfl | rfl
    · exact h7
    · exact h9
    · exact h10
    · exact h12
    · exact h13
    · exact h18
    · exact h21
    · exact h22
    · exact h23
    · exact h24
    · exact h25
    · exact h27
    · exact h28
    · exact h29
    · exact h30
    · exact h31
    · exact h32
    · exact h33
  exact fn_printed hcs (glob_nil _ _) Tryd.func5 (by kernel_rfl) (by kernel_rfl) (S := 0) (fun w _ => loopsOK_nil _) (fun _ => rfl) (r_veillaw04_CurveBack N)
theorem k_veillaw04_CurveBack {w0 : World} (N : Nat)  (hg_curve_Torsion : GlobOK Tryd.prog w0 gs_curve_Torsion) (hg_curve_place_whole : GlobOK Tryd.prog w0 gs_curve_place_whole) (hg_curve_Point_Add : GlobOK Tryd.prog w0 gs_curve_Point_Add) (hg_curve_Point_Free : GlobOK Tryd.prog w0 gs_curve_Point_Free) (hg_curve_Base : GlobOK Tryd.prog w0 gs_curve_Base) (hg_veillaw04_live : GlobOK Tryd.prog w0 gs_veillaw04_live) (hg_field_Const : GlobOK Tryd.prog w0 gs_field_Const) (hg_field_SqrtRatio : GlobOK Tryd.prog w0 gs_field_SqrtRatio) (hg_curve_xOf : GlobOK Tryd.prog w0 gs_curve_xOf) (hg_curve_at : GlobOK Tryd.prog w0 gs_curve_at) (hg_curve_FromAffine : GlobOK Tryd.prog w0 gs_curve_FromAffine) : SoundAt Tryd.prog w0 5 (ct_veillaw04_CurveBack N) :=
  s_veillaw04_CurveBack N (k_veillaw04_live N hg_curve_Torsion hg_curve_place_whole hg_curve_Point_Add hg_curve_Point_Free hg_curve_Base hg_veillaw04_live) (k_curve_Point_Affine N hg_curve_place_whole) (k_field_Elem_Negative) (k_veillaw04_on N hg_curve_place_whole hg_field_Const) (k_curve_Point_Same hg_curve_place_whole) (k_veillaw04_point N hg_curve_Torsion hg_curve_place_whole hg_curve_Point_Add hg_field_Const hg_field_SqrtRatio hg_curve_xOf hg_curve_at hg_curve_FromAffine hg_curve_Base) (k_field_Const hg_field_Const) (k_field_Elem_Mul) (k_field_Elem_One) (k_field_Elem_Add) (k_field_Elem_Sub) (k_curve_Decompress N hg_field_Const hg_field_SqrtRatio hg_curve_xOf hg_curve_at) (k_curve_Point_Compress N hg_curve_place_whole) (k_curve_FromAffine hg_field_Const hg_curve_at hg_curve_FromAffine) (k_field_Elem_Encode) (k_field_Decode) (k_field_Elem_Square) (k_field_SqrtRatio N hg_field_SqrtRatio)

def ct_veillaw04_CurveTorsion (N : Nat) : Ct := fct (.cons (.agg (.cons (.int .i64) (.cons (.int .i64) (.cons (.int .i64) (.cons (.int .i64) (.cons (.ints .u8 32) (.cons (.ints .u64 4) (.cons (.ints .u64 5) (.one (.ints .u64 5)))))))))) (.cons (.int .i64) (.one (.int .i64)))) .bool fun x => veillaw04_CurveTorsion N x.1 x.2.1 x.2.2
def cs_veillaw04_CurveTorsion (N : Nat) : List (FuncId × Ct) := [(7, (ct_veillaw04_live N)), (8, ct_curve_Torsion), (9, (ct_curve_Point_Affine N)), (10, ct_field_Elem_Negative), (11, ct_field_Elem_IsZero), (12, (ct_veillaw04_on N)), (13, ct_curve_Point_Same), (14, (ct_curve_Point_Free N)), (15, ct_curve_Point_Double), (16, ct_curve_Point_Add), (17, ct_veillaw04_around), (18, (ct_veillaw04_point N))]
def gs_veillaw04_CurveTorsion : List Gv := []
def veillaw04_CurveTorsion_l0_H : Fm ((Int × Int × Unit × Unit × Unit × Unit × Int)) (((Int × Int × Int × Int × List Int × List Int × List Int × List Int) × (List Int × List Int × List Int × List Int) × (List Int × List Int × List Int × List Int))) := ⟨(.cons 1 (.int .i64) (.cons 2 (.int .i64) (.cons 3 (.lit (.ptr 0 [] 30)) (.cons 6 (.lit (.bool false)) (.cons 7 (.lit (.ptr 5 [] 35)) (.cons 10 (.lit (.ptr 35 [] 35)) (.one 11 (.int .i64)))))))), (.cons 0 (.agg (.cons (.int .i64) (.cons (.int .i64) (.cons (.int .i64) (.cons (.int .i64) (.cons (.ints .u8 32) (.cons (.ints .u64 4) (.cons (.ints .u64 5) (.one (.ints .u64 5)))))))))) (.cons 5 (.agg (.one (.agg (.cons (.ints .u64 5) (.cons (.ints .u64 5) (.cons (.ints .u64 5) (.one (.ints .u64 5)))))))) (.one 35 (.agg (.one (.agg (.cons (.ints .u64 5) (.cons (.ints .u64 5) (.cons (.ints .u64 5) (.one (.ints .u64 5)))))))))))⟩
def veillaw04_CurveTorsion_l0_O : Fm ((Int × Int × Unit × Unit)) (((Int × Int × Int × Int × List Int × List Int × List Int × List Int) × (List Int × List Int × List Int × List Int))) := ⟨(.cons 1 (.int .i64) (.cons 2 (.int .i64) (.cons 3 (.lit (.ptr 0 [] 30)) (.one 10 (.lit (.ptr 35 [] 35)))))), (.cons 0 (.agg (.cons (.int .i64) (.cons (.int .i64) (.cons (.int .i64) (.cons (.int .i64) (.cons (.ints .u8 32) (.cons (.ints .u64 4) (.cons (.ints .u64 5) (.one (.ints .u64 5)))))))))) (.one 35 (.agg (.one (.agg (.cons (.ints .u64 5) (.cons (.ints .u64 5) (.cons (.ints .u64 5) (.one (.ints .u64 5))))))))))⟩
def veillaw04_CurveTorsion_l0_T : Fm (Unit) (Unit) := ⟨(.one 6 (.lit (.bool false))), .nil⟩
def veillaw04_CurveTorsion_l2_H : Fm ((Unit × Int × Int)) ((List Int × List Int × List Int × List Int)) := ⟨(.cons 15 (.lit (.ptr 70 [] 35)) (.cons 16 (.int .i64) (.one 17 (.int .i64)))), (.one 70 (.agg (.one (.agg (.cons (.ints .u64 5) (.cons (.ints .u64 5) (.cons (.ints .u64 5) (.one (.ints .u64 5)))))))))⟩
def veillaw04_CurveTorsion_l2_O : Fm ((Unit × Int)) ((List Int × List Int × List Int × List Int)) := ⟨(.cons 15 (.lit (.ptr 70 [] 35)) (.one 16 (.int .i64))), (.one 70 (.agg (.one (.agg (.cons (.ints .u64 5) (.cons (.ints .u64 5) (.cons (.ints .u64 5) (.one (.ints .u64 5)))))))))⟩
def veillaw04_CurveTorsion_l2_T : Fm (Unit) (Unit) := ⟨.nil, .nil⟩
noncomputable def ls_veillaw04_CurveTorsion (N : Nat) : List (Nat × Lf) := [(0, loopCt veillaw04_CurveTorsion_l0_H veillaw04_CurveTorsion_l0_O veillaw04_CurveTorsion_l0_T 37 (veillaw04_CurveTorsion_l0 N) N), (2, loopCt veillaw04_CurveTorsion_l2_H veillaw04_CurveTorsion_l2_O veillaw04_CurveTorsion_l2_T 74 (veillaw04_CurveTorsion_l2 N) N)]
theorem veillaw04_CurveTorsion_l0_step (N : Nat) : ∀ v, exec Tryd.prog (cxOf Tryd.f3 (cs_veillaw04_CurveTorsion N) gs_veillaw04_CurveTorsion 0) (fun i => lkL i (ls_veillaw04_CurveTorsion N)) 100 none (loopBody Tryd.f3 0) (veillaw04_CurveTorsion_l0_H.st 37 v) (rdEnd veillaw04_CurveTorsion_l0_H veillaw04_CurveTorsion_l0_O veillaw04_CurveTorsion_l0_T 37 0) = veillaw04_CurveTorsion_l0 N v := by
  intro v; kernel_rfl
theorem veillaw04_CurveTorsion_l2_step (N : Nat) : ∀ v, exec Tryd.prog (cxOf Tryd.f3 (cs_veillaw04_CurveTorsion N) gs_veillaw04_CurveTorsion 0) (fun i => lkL i (ls_veillaw04_CurveTorsion N)) 100 none (loopBody Tryd.f3 2) (veillaw04_CurveTorsion_l2_H.st 74 v) (rdEnd veillaw04_CurveTorsion_l2_H veillaw04_CurveTorsion_l2_O veillaw04_CurveTorsion_l2_T 74 2) = veillaw04_CurveTorsion_l2 N v := by
  intro v; kernel_rfl
theorem r_veillaw04_CurveTorsion (N : Nat) : ∀ x, run Tryd.prog (fun g => lkG g (cs_veillaw04_CurveTorsion N)) (glAt gs_veillaw04_CurveTorsion 0) (gs_veillaw04_CurveTorsion.length + 0) (memAt gs_veillaw04_CurveTorsion 0 ++ (unc gs_veillaw04_CurveTorsion.length (Ag.mk ((.cons (.agg (.cons (.int .i64) (.cons (.int .i64) (.cons (.int .i64) (.cons (.int .i64) (.cons (.ints .u8 32) (.cons (.ints .u64 4) (.cons (.ints .u64 5) (.one (.ints .u64 5)))))))))) (.cons (.int .i64) (.one (.int .i64))))) x)).2) (fun i => lkL i (ls_veillaw04_CurveTorsion N)) 100 Tryd.f3 (unc gs_veillaw04_CurveTorsion.length (Ag.mk ((.cons (.agg (.cons (.int .i64) (.cons (.int .i64) (.cons (.int .i64) (.cons (.int .i64) (.cons (.ints .u8 32) (.cons (.ints .u64 4) (.cons (.ints .u64 5) (.one (.ints .u64 5)))))))))) (.cons (.int .i64) (.one (.int .i64))))) x)).1 none (Pt.get (.bool)) = veillaw04_CurveTorsion N x.1 x.2.1 x.2.2 := by
  intro x; kernel_rfl
theorem s_veillaw04_CurveTorsion {w0 : World} (N : Nat)  (h7 : SoundAt Tryd.prog w0 7 (ct_veillaw04_live N)) (h8 : SoundAt Tryd.prog w0 8 ct_curve_Torsion) (h9 : SoundAt Tryd.prog w0 9 (ct_curve_Point_Affine N)) (h10 : SoundAt Tryd.prog w0 10 ct_field_Elem_Negative) (h11 : SoundAt Tryd.prog w0 11 ct_field_Elem_IsZero) (h12 : SoundAt Tryd.prog w0 12 (ct_veillaw04_on N)) (h13 : SoundAt Tryd.prog w0 13 ct_curve_Point_Same) (h14 : SoundAt Tryd.prog w0 14 (ct_curve_Point_Free N)) (h15 : SoundAt Tryd.prog w0 15 ct_curve_Point_Double) (h16 : SoundAt Tryd.prog w0 16 ct_curve_Point_Add) (h17 : SoundAt Tryd.prog w0 17 ct_veillaw04_around) (h18 : SoundAt Tryd.prog w0 18 (ct_veillaw04_point N)) : SoundAt Tryd.prog w0 3 (ct_veillaw04_CurveTorsion N) := by
  have hcs : ∀ x ∈ cs_veillaw04_CurveTorsion N, SoundAt Tryd.prog w0 x.1 x.2 := by
    intro x hx
    simp only [cs_veillaw04_CurveTorsion, List.mem_cons, List.not_mem_nil, or_false] at hx
    rcases hx with rfl | rfl | rfl | rfl | rfl | rfl | rfl | rfl | rfl | rfl | rfl | rfl
    · exact h7
    · exact h8
    · exact h9
    · exact h10
    · exact h11
    · exact h12
    · exact h13
    · exact h14
    · exact h15
    · exact h16
    · exact h17
    · exact h18
  have L0 : ∀ w, RowKit.Below w0.heap.size w0 w → LoopOK Tryd.prog (cxOf Tryd.f3 (cs_veillaw04_CurveTorsion N) gs_veillaw04_CurveTorsion 0) w 0 (.loop (loopBody Tryd.f3 0)) (loopCt veillaw04_CurveTorsion_l0_H veillaw04_CurveTorsion_l0_O veillaw04_CurveTorsion_l0_T 37 (veillaw04_CurveTorsion_l0 N) N) :=
    loop_printed hcs (ls := ls_veillaw04_CurveTorsion N) (n := 100) (by kernel_rfl) (veillaw04_CurveTorsion_l0_step N) N fun w hw => loopsOK_list (by
      intro x hx
      simp only [ls_veillaw04_CurveTorsion, List.mem_cons, List.not_mem_nil, or_false] at hx
      rcases hx with rfl | rfl
      · exact .inl (by kernel_rfl)
      · exact .inl (by kernel_rfl)
    )
  have L2 : ∀ w, RowKit.Below w0.heap.size w0 w → LoopOK Tryd.prog (cxOf Tryd.f3 (cs_veillaw04_CurveTorsion N) gs_veillaw04_CurveTorsion 0) w 2 (.loop (loopBody Tryd.f3 2)) (loopCt veillaw04_CurveTorsion_l2_H veillaw04_CurveTorsion_l2_O veillaw04_CurveTorsion_l2_T 74 (veillaw04_CurveTorsion_l2 N) N) :=
    loop_printed hcs (ls := ls_veillaw04_CurveTorsion N) (n := 100) (by kernel_rfl) (veillaw04_CurveTorsion_l2_step N) N fun w hw => loopsOK_list (by
      intro x hx
      simp only [ls_veillaw04_CurveTorsion, List.mem_cons, List.not_mem_nil, or_false] at hx
      rcases hx with rfl | rfl
      · exact .inl (by kernel_rfl)
      · exact .inl (by kernel_rfl)
    )
  exact fn_printed hcs (glob_nil _ _) Tryd.func3 (by kernel_rfl) (by kernel_rfl) (S := 0) (fun w hw => loopsOK_list (by
    intro x hx
    simp only [ls_veillaw04_CurveTorsion, List.mem_cons, List.not_mem_nil, or_false] at hx
    rcases hx with rfl | rfl
    · exact .inr ⟨_, by kernel_rfl, L0 w hw⟩
    · exact .inr ⟨_, by kernel_rfl, L2 w hw⟩
  )) (fun _ => rfl) (r_veillaw04_CurveTorsion N)
theorem k_veillaw04_CurveTorsion {w0 : World} (N : Nat)  (hg_curve_Torsion : GlobOK Tryd.prog w0 gs_curve_Torsion) (hg_curve_place_whole : GlobOK Tryd.prog w0 gs_curve_place_whole) (hg_curve_Point_Add : GlobOK Tryd.prog w0 gs_curve_Point_Add) (hg_curve_Point_Free : GlobOK Tryd.prog w0 gs_curve_Point_Free) (hg_curve_Base : GlobOK Tryd.prog w0 gs_curve_Base) (hg_veillaw04_live : GlobOK Tryd.prog w0 gs_veillaw04_live) (hg_field_Const : GlobOK Tryd.prog w0 gs_field_Const) (hg_field_SqrtRatio : GlobOK Tryd.prog w0 gs_field_SqrtRatio) (hg_curve_xOf : GlobOK Tryd.prog w0 gs_curve_xOf) (hg_curve_at : GlobOK Tryd.prog w0 gs_curve_at) (hg_curve_FromAffine : GlobOK Tryd.prog w0 gs_curve_FromAffine) : SoundAt Tryd.prog w0 3 (ct_veillaw04_CurveTorsion N) :=
  s_veillaw04_CurveTorsion N (k_veillaw04_live N hg_curve_Torsion hg_curve_place_whole hg_curve_Point_Add hg_curve_Point_Free hg_curve_Base hg_veillaw04_live) (k_curve_Torsion hg_curve_Torsion) (k_curve_Point_Affine N hg_curve_place_whole) (k_field_Elem_Negative) (k_field_Elem_IsZero) (k_veillaw04_on N hg_curve_place_whole hg_field_Const) (k_curve_Point_Same hg_curve_place_whole) (k_curve_Point_Free N hg_curve_place_whole hg_curve_Point_Add hg_curve_Point_Free) (k_curve_Point_Double hg_curve_place_whole) (k_curve_Point_Add hg_curve_place_whole hg_curve_Point_Add) (k_veillaw04_around) (k_veillaw04_point N hg_curve_Torsion hg_curve_place_whole hg_curve_Point_Add hg_field_Const hg_field_SqrtRatio hg_curve_xOf hg_curve_at hg_curve_FromAffine hg_curve_Base)

def ct_curve_Sum_3 : Ct := fct (.one (.tup (.cons (.agg (.cons (.agg (.one (.agg (.cons (.ints .u64 5) (.cons (.ints .u64 5) (.cons (.ints .u64 5) (.one (.ints .u64 5)))))))) (.cons (.agg (.one (.agg (.cons (.ints .u64 5) (.cons (.ints .u64 5) (.cons (.ints .u64 5) (.one (.ints .u64 5)))))))) (.one (.agg (.one (.agg (.cons (.ints .u64 5) (.cons (.ints .u64 5) (.cons (.ints .u64 5) (.one (.ints .u64 5)))))))))))) (.one (.lit (.clo 35 [])))))) (.agg (.one (.agg (.cons (.ints .u64 5) (.cons (.ints .u64 5) (.cons (.ints .u64 5) (.one (.ints .u64 5)))))))) fun x => curve_Sum_3 x
def cs_curve_Sum_3 : List (FuncId × Ct) := [(16, ct_curve_Point_Add)]
def gs_curve_Sum_3 : List Gv := []
noncomputable def ls_curve_Sum_3 : List (Nat × Lf) := []
theorem r_curve_Sum_3 : ∀ x, run Tryd.prog (fun g => lkG g (cs_curve_Sum_3)) (glAt gs_curve_Sum_3 0) (gs_curve_Sum_3.length + 1) (memAt gs_curve_Sum_3 0 ++ (unc gs_curve_Sum_3.length (Ag.mk ((.one (.tup (.cons (.agg (.cons (.agg (.one (.agg (.cons (.ints .u64 5) (.cons (.ints .u64 5) (.cons (.ints .u64 5) (.one (.ints .u64 5)))))))) (.cons (.agg (.one (.agg (.cons (.ints .u64 5) (.cons (.ints .u64 5) (.cons (.ints .u64 5) (.one (.ints .u64 5)))))))) (.one (.agg (.one (.agg (.cons (.ints .u64 5) (.cons (.ints .u64 5) (.cons (.ints .u64 5) (.one (.ints .u64 5)))))))))))) (.one (.lit (.clo 35 []))))))) x)).2) (fun i => lkL i (ls_curve_Sum_3)) 100 Tryd.f26 (unc gs_curve_Sum_3.length (Ag.mk ((.one (.tup (.cons (.agg (.cons (.agg (.one (.agg (.cons (.ints .u64 5) (.cons (.ints .u64 5) (.cons (.ints .u64 5) (.one (.ints .u64 5)))))))) (.cons (.agg (.one (.agg (.cons (.ints .u64 5) (.cons (.ints .u64 5) (.cons (.ints .u64 5) (.one (.ints .u64 5)))))))) (.one (.agg (.one (.agg (.cons (.ints .u64 5) (.cons (.ints .u64 5) (.cons (.ints .u64 5) (.one (.ints .u64 5)))))))))))) (.one (.lit (.clo 35 []))))))) x)).1 none (Pt.get ((.agg (.one (.agg (.cons (.ints .u64 5) (.cons (.ints .u64 5) (.cons (.ints .u64 5) (.one (.ints .u64 5)))))))))) = curve_Sum_3 x := by
  intro x; kernel_rfl
theorem s_curve_Sum_3 {w0 : World}  (h16 : SoundAt Tryd.prog w0 16 ct_curve_Point_Add) : SoundAt Tryd.prog w0 26 ct_curve_Sum_3 := by
  have hcs : ∀ x ∈ cs_curve_Sum_3, SoundAt Tryd.prog w0 x.1 x.2 := by
    intro x hx
    simp only [cs_curve_Sum_3, List.mem_cons, List.not_mem_nil, or_false] at hx
    rcases hx with rfl
    · exact h16
  exact fn_printed hcs (glob_nil _ _) Tryd.func26 (by kernel_rfl) (by kernel_rfl) (S := 1) (fun w _ => loopsOK_nil _) (fun _ => rfl) (r_curve_Sum_3)
theorem k_curve_Sum_3 {w0 : World}  (hg_curve_place_whole : GlobOK Tryd.prog w0 gs_curve_place_whole) (hg_curve_Point_Add : GlobOK Tryd.prog w0 gs_curve_Point_Add) : SoundAt Tryd.prog w0 26 ct_curve_Sum_3 :=
  s_curve_Sum_3 (k_curve_Point_Add hg_curve_place_whole hg_curve_Point_Add)

def ct_veillaw04_CurveLaws (N : Nat) : Ct := fct (.cons (.agg (.cons (.int .i64) (.cons (.int .i64) (.cons (.int .i64) (.cons (.int .i64) (.cons (.ints .u8 32) (.cons (.ints .u64 4) (.cons (.ints .u64 5) (.one (.ints .u64 5)))))))))) (.cons (.agg (.cons (.int .i64) (.cons (.int .i64) (.cons (.int .i64) (.cons (.int .i64) (.cons (.ints .u8 32) (.cons (.ints .u64 4) (.cons (.ints .u64 5) (.one (.ints .u64 5)))))))))) (.one (.agg (.cons (.int .i64) (.cons (.int .i64) (.cons (.int .i64) (.cons (.int .i64) (.cons (.ints .u8 32) (.cons (.ints .u64 4) (.cons (.ints .u64 5) (.one (.ints .u64 5))))))))))))) .bool fun x => veillaw04_CurveLaws N x.1 x.2.1 x.2.2
def cs_veillaw04_CurveLaws (N : Nat) : List (FuncId × Ct) := [(7, (ct_veillaw04_live N)), (9, (ct_curve_Point_Affine N)), (12, (ct_veillaw04_on N)), (13, ct_curve_Point_Same), (14, (ct_curve_Point_Free N)), (15, ct_curve_Point_Double), (16, ct_curve_Point_Add), (18, (ct_veillaw04_point N)), (19, ct_curve_Point_Sub), (20, ct_curve_Point_Neg), (21, ct_field_Const), (22, ct_field_Elem_Mul), (23, ct_field_Elem_One), (24, ct_field_Elem_Add), (25, ct_field_Elem_Sub), (26, ct_curve_Sum_3)]
def gs_veillaw04_CurveLaws : List Gv := []
noncomputable def ls_veillaw04_CurveLaws (N : Nat) : List (Nat × Lf) := []
theorem r_veillaw04_CurveLaws (N : Nat) : ∀ x, run Tryd.prog (fun g => lkG g (cs_veillaw04_CurveLaws N)) (glAt gs_veillaw04_CurveLaws 0) (gs_veillaw04_CurveLaws.length + 0) (memAt gs_veillaw04_CurveLaws 0 ++ (unc gs_veillaw04_CurveLaws.length (Ag.mk ((.cons (.agg (.cons (.int .i64) (.cons (.int .i64) (.cons (.int .i64) (.cons (.int .i64) (.cons (.ints .u8 32) (.cons (.ints .u64 4) (.cons (.ints .u64 5) (.one (.ints .u64 5)))))))))) (.cons (.agg (.cons (.int .i64) (.cons (.int .i64) (.cons (.int .i64) (.cons (.int .i64) (.cons (.ints .u8 32) (.cons (.ints .u64 4) (.cons (.ints .u64 5) (.one (.ints .u64 5)))))))))) (.one (.agg (.cons (.int .i64) (.cons (.int .i64) (.cons (.int .i64) (.cons (.int .i64) (.cons (.ints .u8 32) (.cons (.ints .u64 4) (.cons (.ints .u64 5) (.one (.ints .u64 5)))))))))))))) x)).2) (fun i => lkL i (ls_veillaw04_CurveLaws N)) 100 Tryd.f4 (unc gs_veillaw04_CurveLaws.length (Ag.mk ((.cons (.agg (.cons (.int .i64) (.cons (.int .i64) (.cons (.int .i64) (.cons (.int .i64) (.cons (.ints .u8 32) (.cons (.ints .u64 4) (.cons (.ints .u64 5) (.one (.ints .u64 5)))))))))) (.cons (.agg (.cons (.int .i64) (.cons (.int .i64) (.cons (.int .i64) (.cons (.int .i64) (.cons (.ints .u8 32) (.cons (.ints .u64 4) (.cons (.ints .u64 5) (.one (.ints .u64 5)))))))))) (.one (.agg (.cons (.int .i64) (.cons (.int .i64) (.cons (.int .i64) (.cons (.int .i64) (.cons (.ints .u8 32) (.cons (.ints .u64 4) (.cons (.ints .u64 5) (.one (.ints .u64 5)))))))))))))) x)).1 none (Pt.get (.bool)) = veillaw04_CurveLaws N x.1 x.2.1 x.2.2 := by
  intro x; kernel_rfl
theorem s_veillaw04_CurveLaws {w0 : World} (N : Nat)  (h7 : SoundAt Tryd.prog w0 7 (ct_veillaw04_live N)) (h9 : SoundAt Tryd.prog w0 9 (ct_curve_Point_Affine N)) (h12 : SoundAt Tryd.prog w0 12 (ct_veillaw04_on N)) (h13 : SoundAt Tryd.prog w0 13 ct_curve_Point_Same) (h14 : SoundAt Tryd.prog w0 14 (ct_curve_Point_Free N)) (h15 : SoundAt Tryd.prog w0 15 ct_curve_Point_Double) (h16 : SoundAt Tryd.prog w0 16 ct_curve_Point_Add) (h18 : SoundAt Tryd.prog w0 18 (ct_veillaw04_point N)) (h19 : SoundAt Tryd.prog w0 19 ct_curve_Point_Sub) (h20 : SoundAt Tryd.prog w0 20 ct_curve_Point_Neg) (h21 : SoundAt Tryd.prog w0 21 ct_field_Const) (h22 : SoundAt Tryd.prog w0 22 ct_field_Elem_Mul) (h23 : SoundAt Tryd.prog w0 23 ct_field_Elem_One) (h24 : SoundAt Tryd.prog w0 24 ct_field_Elem_Add) (h25 : SoundAt Tryd.prog w0 25 ct_field_Elem_Sub) (h26 : SoundAt Tryd.prog w0 26 ct_curve_Sum_3) : SoundAt Tryd.prog w0 4 (ct_veillaw04_CurveLaws N) := by
  have hcs : ∀ x ∈ cs_veillaw04_CurveLaws N, SoundAt Tryd.prog w0 x.1 x.2 := by
    intro x hx
    simp only [cs_veillaw04_CurveLaws, List.mem_cons, List.not_mem_nil, or_false] at hx
    rcases hx with rfl | rfl | rfl | rfl | rfl | rfl | rfl | rfl | rfl | rfl | rfl | rfl | rfl | rfl | rfl | rfl
    · exact h7
    · exact h9
    · exact h12
    · exact h13
    · exact h14
    · exact h15
    · exact h16
    · exact h18
    · exact h19
    · exact h20
    · exact h21
    · exact h22
    · exact h23
    · exact h24
    · exact h25
    · exact h26
  exact fn_printed hcs (glob_nil _ _) Tryd.func4 (by kernel_rfl) (by kernel_rfl) (S := 0) (fun w _ => loopsOK_nil _) (fun _ => rfl) (r_veillaw04_CurveLaws N)
theorem k_veillaw04_CurveLaws {w0 : World} (N : Nat)  (hg_curve_Torsion : GlobOK Tryd.prog w0 gs_curve_Torsion) (hg_curve_place_whole : GlobOK Tryd.prog w0 gs_curve_place_whole) (hg_curve_Point_Add : GlobOK Tryd.prog w0 gs_curve_Point_Add) (hg_curve_Point_Free : GlobOK Tryd.prog w0 gs_curve_Point_Free) (hg_curve_Base : GlobOK Tryd.prog w0 gs_curve_Base) (hg_veillaw04_live : GlobOK Tryd.prog w0 gs_veillaw04_live) (hg_field_Const : GlobOK Tryd.prog w0 gs_field_Const) (hg_field_SqrtRatio : GlobOK Tryd.prog w0 gs_field_SqrtRatio) (hg_curve_xOf : GlobOK Tryd.prog w0 gs_curve_xOf) (hg_curve_at : GlobOK Tryd.prog w0 gs_curve_at) (hg_curve_FromAffine : GlobOK Tryd.prog w0 gs_curve_FromAffine) : SoundAt Tryd.prog w0 4 (ct_veillaw04_CurveLaws N) :=
  s_veillaw04_CurveLaws N (k_veillaw04_live N hg_curve_Torsion hg_curve_place_whole hg_curve_Point_Add hg_curve_Point_Free hg_curve_Base hg_veillaw04_live) (k_curve_Point_Affine N hg_curve_place_whole) (k_veillaw04_on N hg_curve_place_whole hg_field_Const) (k_curve_Point_Same hg_curve_place_whole) (k_curve_Point_Free N hg_curve_place_whole hg_curve_Point_Add hg_curve_Point_Free) (k_curve_Point_Double hg_curve_place_whole) (k_curve_Point_Add hg_curve_place_whole hg_curve_Point_Add) (k_veillaw04_point N hg_curve_Torsion hg_curve_place_whole hg_curve_Point_Add hg_field_Const hg_field_SqrtRatio hg_curve_xOf hg_curve_at hg_curve_FromAffine hg_curve_Base) (k_curve_Point_Sub hg_curve_place_whole hg_curve_Point_Add) (k_curve_Point_Neg hg_curve_place_whole) (k_field_Const hg_field_Const) (k_field_Elem_Mul) (k_field_Elem_One) (k_field_Elem_Add) (k_field_Elem_Sub) (k_curve_Sum_3 hg_curve_place_whole hg_curve_Point_Add)

def ct_scalar_minus : Ct := fct (.cons (.ints .u64 4) (.one (.ints .u64 4))) (.tup (.cons (.ints .u64 4) (.one (.int .u64)))) fun x => scalar_minus x.1 x.2
def cs_scalar_minus : List (FuncId × Ct) := [(71, ct_bits_Sub64)]
def gs_scalar_minus : List Gv := []
noncomputable def ls_scalar_minus : List (Nat × Lf) := []
theorem r_scalar_minus : ∀ x, run Tryd.prog (fun g => lkG g (cs_scalar_minus)) (glAt gs_scalar_minus 0) (gs_scalar_minus.length + 0) (memAt gs_scalar_minus 0 ++ (unc gs_scalar_minus.length (Ag.mk ((.cons (.ints .u64 4) (.one (.ints .u64 4)))) x)).2) (fun i => lkL i (ls_scalar_minus)) 100 Tryd.f67 (unc gs_scalar_minus.length (Ag.mk ((.cons (.ints .u64 4) (.one (.ints .u64 4)))) x)).1 none (Pt.get ((.tup (.cons (.ints .u64 4) (.one (.int .u64)))))) = scalar_minus x.1 x.2 := by
  intro x; kernel_rfl
theorem s_scalar_minus {w0 : World}  (h71 : SoundAt Tryd.prog w0 71 ct_bits_Sub64) : SoundAt Tryd.prog w0 67 ct_scalar_minus := by
  have hcs : ∀ x ∈ cs_scalar_minus, SoundAt Tryd.prog w0 x.1 x.2 := by
    intro x hx
    simp only [cs_scalar_minus, List.mem_cons, List.not_mem_nil, or_false] at hx
    rcases hx with rfl
    · exact h71
  exact fn_printed hcs (glob_nil _ _) Tryd.func67 (by kernel_rfl) (by kernel_rfl) (S := 0) (fun w _ => loopsOK_nil _) (fun _ => rfl) (r_scalar_minus)
theorem k_scalar_minus {w0 : World}  : SoundAt Tryd.prog w0 67 ct_scalar_minus :=
  s_scalar_minus (k_bits_Sub64)

def ct_scalar_plus : Ct := fct (.cons (.ints .u64 4) (.one (.ints .u64 4))) (.tup (.cons (.ints .u64 4) (.one (.int .u64)))) fun x => scalar_plus x.1 x.2
def cs_scalar_plus : List (FuncId × Ct) := [(62, ct_bits_Add64)]
def gs_scalar_plus : List Gv := []
noncomputable def ls_scalar_plus : List (Nat × Lf) := []
theorem r_scalar_plus : ∀ x, run Tryd.prog (fun g => lkG g (cs_scalar_plus)) (glAt gs_scalar_plus 0) (gs_scalar_plus.length + 0) (memAt gs_scalar_plus 0 ++ (unc gs_scalar_plus.length (Ag.mk ((.cons (.ints .u64 4) (.one (.ints .u64 4)))) x)).2) (fun i => lkL i (ls_scalar_plus)) 100 Tryd.f68 (unc gs_scalar_plus.length (Ag.mk ((.cons (.ints .u64 4) (.one (.ints .u64 4)))) x)).1 none (Pt.get ((.tup (.cons (.ints .u64 4) (.one (.int .u64)))))) = scalar_plus x.1 x.2 := by
  intro x; kernel_rfl
theorem s_scalar_plus {w0 : World}  (h62 : SoundAt Tryd.prog w0 62 ct_bits_Add64) : SoundAt Tryd.prog w0 68 ct_scalar_plus := by
  have hcs : ∀ x ∈ cs_scalar_plus, SoundAt Tryd.prog w0 x.1 x.2 := by
    intro x hx
    simp only [cs_scalar_plus, List.mem_cons, List.not_mem_nil, or_false] at hx
    rcases hx with rfl
    · exact h62
  exact fn_printed hcs (glob_nil _ _) Tryd.func68 (by kernel_rfl) (by kernel_rfl) (S := 0) (fun w _ => loopsOK_nil _) (fun _ => rfl) (r_scalar_plus)
theorem k_scalar_plus {w0 : World}  : SoundAt Tryd.prog w0 68 ct_scalar_plus :=
  s_scalar_plus (k_bits_Add64)

def ct_scalar_choose : Ct := tct (.cons (.int .u64) (.cons (.ints .u64 4) (.one (.ints .u64 4)))) (.ints .u64 4) fun x => scalar_choose x.1 x.2.1 x.2.2
def cs_scalar_choose : List (FuncId × Ct) := []
def gs_scalar_choose : List Gv := []
noncomputable def ls_scalar_choose : List (Nat × Lf) := []
theorem r_scalar_choose : ∀ x, run Tryd.prog (fun g => lkG g (cs_scalar_choose)) (glAt gs_scalar_choose 0) (gs_scalar_choose.length + 0) (memAt gs_scalar_choose 0 ++ (unc gs_scalar_choose.length (Ag.mk ((.cons (.int .u64) (.cons (.ints .u64 4) (.one (.ints .u64 4))))) x)).2) (fun i => lkL i (ls_scalar_choose)) 100 Tryd.f70 (unc gs_scalar_choose.length (Ag.mk ((.cons (.int .u64) (.cons (.ints .u64 4) (.one (.ints .u64 4))))) x)).1 none (Pt.get ((.ints .u64 4))) = some (scalar_choose x.1 x.2.1 x.2.2) := by
  intro x; kernel_rfl
theorem s_scalar_choose {w0 : World}  : SoundAt Tryd.prog w0 70 ct_scalar_choose := by
  have hcs : ∀ x ∈ cs_scalar_choose, SoundAt Tryd.prog w0 x.1 x.2 := by
    intro x hx
    simp [cs_scalar_choose] at hx
  exact sound_tct (fn_printed hcs (glob_nil _ _) Tryd.func70 (by kernel_rfl) (by kernel_rfl) (S := 0) (fun w _ => loopsOK_nil _) (fun _ => rfl) (r_scalar_choose)) fun _ _ => rfl
theorem k_scalar_choose {w0 : World}  : SoundAt Tryd.prog w0 70 ct_scalar_choose :=
  s_scalar_choose

def ct_scalar_lower : Ct := fct (.one (.ints .u64 4)) (.ints .u64 4) fun x => scalar_lower x
def cs_scalar_lower : List (FuncId × Ct) := [(67, ct_scalar_minus), (70, ct_scalar_choose)]
def gs_scalar_lower : List Gv := [⟨7, 97, (.agg [(.ints .u64 4 [6346243789798364141, 1503914060200516822, 0, 1152921504606846976]), (.ints .u64 4 [15486807595281847581, 14334777244411350896, 18446744073709551614, 1152921504606846975]), (.ints .u64 4 [11819153939886771969, 14991950615390032711, 14910419812499177061, 259310039853996605]), (.ints .u64 4 [6346243789798364139, 1503914060200516822, 0, 1152921504606846976])])⟩]
noncomputable def ls_scalar_lower : List (Nat × Lf) := []
theorem r_scalar_lower : ∀ x, run Tryd.prog (fun g => lkG g (cs_scalar_lower)) (glAt gs_scalar_lower 0) (gs_scalar_lower.length + 0) (memAt gs_scalar_lower 0 ++ (unc gs_scalar_lower.length (Ag.mk ((.one (.ints .u64 4))) x)).2) (fun i => lkL i (ls_scalar_lower)) 100 Tryd.f69 (unc gs_scalar_lower.length (Ag.mk ((.one (.ints .u64 4))) x)).1 none (Pt.get ((.ints .u64 4))) = scalar_lower x := by
  intro x; kernel_rfl
theorem s_scalar_lower {w0 : World}  (h67 : SoundAt Tryd.prog w0 67 ct_scalar_minus) (h70 : SoundAt Tryd.prog w0 70 ct_scalar_choose) (hg : GlobOK Tryd.prog w0 gs_scalar_lower) : SoundAt Tryd.prog w0 69 ct_scalar_lower := by
  have hcs : ∀ x ∈ cs_scalar_lower, SoundAt Tryd.prog w0 x.1 x.2 := by
    intro x hx
    simp only [cs_scalar_lower, List.mem_cons, List.not_mem_nil, or_false] at hx
    rcases hx with rfl | rfl
    · exact h67
    · exact h70
  exact fn_printed hcs hg Tryd.func69 (by kernel_rfl) (by kernel_rfl) (S := 0) (fun w _ => loopsOK_nil _) (fun _ => rfl) (r_scalar_lower)
theorem k_scalar_lower {w0 : World}  (hg_scalar_lower : GlobOK Tryd.prog w0 gs_scalar_lower) : SoundAt Tryd.prog w0 69 ct_scalar_lower :=
  s_scalar_lower (k_scalar_minus) (k_scalar_choose) hg_scalar_lower

def ct_scalar_Scalar_Least : Ct := fct (.one (.ints .u64 4)) (.ints .u64 4) fun x => scalar_Scalar_Least x
def cs_scalar_Scalar_Least : List (FuncId × Ct) := [(61, ct_bits_Mul64), (62, ct_bits_Add64), (67, ct_scalar_minus), (68, ct_scalar_plus), (69, ct_scalar_lower), (70, ct_scalar_choose)]
def gs_scalar_Scalar_Least : List Gv := [⟨7, 97, (.agg [(.ints .u64 4 [6346243789798364141, 1503914060200516822, 0, 1152921504606846976]), (.ints .u64 4 [15486807595281847581, 14334777244411350896, 18446744073709551614, 1152921504606846975]), (.ints .u64 4 [11819153939886771969, 14991950615390032711, 14910419812499177061, 259310039853996605]), (.ints .u64 4 [6346243789798364139, 1503914060200516822, 0, 1152921504606846976])])⟩]
noncomputable def ls_scalar_Scalar_Least : List (Nat × Lf) := []
theorem r_scalar_Scalar_Least : ∀ x, run Tryd.prog (fun g => lkG g (cs_scalar_Scalar_Least)) (glAt gs_scalar_Scalar_Least 0) (gs_scalar_Scalar_Least.length + 0) (memAt gs_scalar_Scalar_Least 0 ++ (unc gs_scalar_Scalar_Least.length (Ag.mk ((.one (.ints .u64 4))) x)).2) (fun i => lkL i (ls_scalar_Scalar_Least)) 100 Tryd.f66 (unc gs_scalar_Scalar_Least.length (Ag.mk ((.one (.ints .u64 4))) x)).1 none (Pt.get ((.ints .u64 4))) = scalar_Scalar_Least x := by
  intro x; kernel_rfl
theorem s_scalar_Scalar_Least {w0 : World}  (h61 : SoundAt Tryd.prog w0 61 ct_bits_Mul64) (h62 : SoundAt Tryd.prog w0 62 ct_bits_Add64) (h67 : SoundAt Tryd.prog w0 67 ct_scalar_minus) (h68 : SoundAt Tryd.prog w0 68 ct_scalar_plus) (h69 : SoundAt Tryd.prog w0 69 ct_scalar_lower) (h70 : SoundAt Tryd.prog w0 70 ct_scalar_choose) (hg : GlobOK Tryd.prog w0 gs_scalar_Scalar_Least) : SoundAt Tryd.prog w0 66 ct_scalar_Scalar_Least := by
  have hcs : ∀ x ∈ cs_scalar_Scalar_Least, SoundAt Tryd.prog w0 x.1 x.2 := by
    intro x hx
    simp only [cs_scalar_Scalar_Least, List.mem_cons, List.not_mem_nil, or_false] at hx
    rcases hx with rfl | rfl | rfl | rfl | rfl | rfl
    · exact h61
    · exact h62
    · exact h67
    · exact h68
    · exact h69
    · exact h70
  exact fn_printed hcs hg Tryd.func66 (by kernel_rfl) (by kernel_rfl) (S := 0) (fun w _ => loopsOK_nil _) (fun _ => rfl) (r_scalar_Scalar_Least)
theorem k_scalar_Scalar_Least {w0 : World}  (hg_scalar_lower : GlobOK Tryd.prog w0 gs_scalar_lower) (hg_scalar_Scalar_Least : GlobOK Tryd.prog w0 gs_scalar_Scalar_Least) : SoundAt Tryd.prog w0 66 ct_scalar_Scalar_Least :=
  s_scalar_Scalar_Least (k_bits_Mul64) (k_bits_Add64) (k_scalar_minus) (k_scalar_plus) (k_scalar_lower hg_scalar_lower) (k_scalar_choose) hg_scalar_Scalar_Least

def ct_scalar_Scalar_Encode (N : Nat) : Ct := fct (.one (.ints .u64 4)) (.ints .u8 32) fun x => scalar_Scalar_Encode N x
def cs_scalar_Scalar_Encode (N : Nat) : List (FuncId × Ct) := [(66, ct_scalar_Scalar_Least)]
def gs_scalar_Scalar_Encode : List Gv := []
def scalar_Scalar_Encode_l0_H : Fm ((Unit × Unit × Unit × Int)) ((List Int × Unit × List Int)) := ⟨(.cons 1 (.lit (.ptr 0 [] 26)) (.cons 2 (.lit (.ptr 1 [] 23)) (.cons 3 (.lit (.ptr 5 [] 23)) (.one 7 (.int .i64))))), (.cons 0 (.ints .u64 4) (.cons 1 (.lit (.ints .u8 32 [0, 0, 0, 0, 0, 0, 0, 0, 0, 0, 0, 0, 0, 0, 0, 0, 0, 0, 0, 0, 0, 0, 0, 0, 0, 0, 0, 0, 0, 0, 0, 0])) (.one 5 (.ints .u8 32))))⟩
def scalar_Scalar_Encode_l0_O : Fm ((Unit × Unit)) ((Unit × List Int)) := ⟨(.cons 2 (.lit (.ptr 1 [] 23)) (.one 3 (.lit (.ptr 5 [] 23)))), (.cons 1 (.lit (.ints .u8 32 [0, 0, 0, 0, 0, 0, 0, 0, 0, 0, 0, 0, 0, 0, 0, 0, 0, 0, 0, 0, 0, 0, 0, 0, 0, 0, 0, 0, 0, 0, 0, 0])) (.one 5 (.ints .u8 32)))⟩
def scalar_Scalar_Encode_l0_T : Fm (Unit) (Unit) := ⟨.nil, .nil⟩
noncomputable def ls_scalar_Scalar_Encode (N : Nat) : List (Nat × Lf) := [(0, loopCt scalar_Scalar_Encode_l0_H scalar_Scalar_Encode_l0_O scalar_Scalar_Encode_l0_T 7 (scalar_Scalar_Encode_l0 N) N)]
theorem scalar_Scalar_Encode_l0_step (N : Nat) : ∀ v, exec Tryd.prog (cxOf Tryd.f56 (cs_scalar_Scalar_Encode N) gs_scalar_Scalar_Encode 0) (fun i => lkL i (ls_scalar_Scalar_Encode N)) 100 none (loopBody Tryd.f56 0) (scalar_Scalar_Encode_l0_H.st 7 v) (rdEnd scalar_Scalar_Encode_l0_H scalar_Scalar_Encode_l0_O scalar_Scalar_Encode_l0_T 7 0) = scalar_Scalar_Encode_l0 N v := by
  intro v; kernel_rfl
theorem r_scalar_Scalar_Encode (N : Nat) : ∀ x, run Tryd.prog (fun g => lkG g (cs_scalar_Scalar_Encode N)) (glAt gs_scalar_Scalar_Encode 0) (gs_scalar_Scalar_Encode.length + 0) (memAt gs_scalar_Scalar_Encode 0 ++ (unc gs_scalar_Scalar_Encode.length (Ag.mk ((.one (.ints .u64 4))) x)).2) (fun i => lkL i (ls_scalar_Scalar_Encode N)) 100 Tryd.f56 (unc gs_scalar_Scalar_Encode.length (Ag.mk ((.one (.ints .u64 4))) x)).1 none (Pt.get ((.ints .u8 32))) = scalar_Scalar_Encode N x := by
  intro x; kernel_rfl
theorem s_scalar_Scalar_Encode {w0 : World} (N : Nat)  (h66 : SoundAt Tryd.prog w0 66 ct_scalar_Scalar_Least) : SoundAt Tryd.prog w0 56 (ct_scalar_Scalar_Encode N) := by
  have hcs : ∀ x ∈ cs_scalar_Scalar_Encode N, SoundAt Tryd.prog w0 x.1 x.2 := by
    intro x hx
    simp only [cs_scalar_Scalar_Encode, List.mem_cons, List.not_mem_nil, or_false] at hx
    rcases hx with rfl
    · exact h66
  have L0 : ∀ w, RowKit.Below w0.heap.size w0 w → LoopOK Tryd.prog (cxOf Tryd.f56 (cs_scalar_Scalar_Encode N) gs_scalar_Scalar_Encode 0) w 0 (.loop (loopBody Tryd.f56 0)) (loopCt scalar_Scalar_Encode_l0_H scalar_Scalar_Encode_l0_O scalar_Scalar_Encode_l0_T 7 (scalar_Scalar_Encode_l0 N) N) :=
    loop_printed hcs (ls := ls_scalar_Scalar_Encode N) (n := 100) (by kernel_rfl) (scalar_Scalar_Encode_l0_step N) N fun w hw => loopsOK_list (by
      intro x hx
      simp only [ls_scalar_Scalar_Encode, List.mem_cons, List.not_mem_nil, or_false] at hx
      rcases hx with rfl
      · exact .inl (by kernel_rfl)
    )
  exact fn_printed hcs (glob_nil _ _) Tryd.func56 (by kernel_rfl) (by kernel_rfl) (S := 0) (fun w hw => loopsOK_list (by
    intro x hx
    simp only [ls_scalar_Scalar_Encode, List.mem_cons, List.not_mem_nil, or_false] at hx
    rcases hx with rfl
    · exact .inr ⟨_, by kernel_rfl, L0 w hw⟩
  )) (fun _ => rfl) (r_scalar_Scalar_Encode N)
theorem k_scalar_Scalar_Encode {w0 : World} (N : Nat)  (hg_scalar_lower : GlobOK Tryd.prog w0 gs_scalar_lower) (hg_scalar_Scalar_Least : GlobOK Tryd.prog w0 gs_scalar_Scalar_Least) : SoundAt Tryd.prog w0 56 (ct_scalar_Scalar_Encode N) :=
  s_scalar_Scalar_Encode N (k_scalar_Scalar_Least hg_scalar_lower hg_scalar_Scalar_Least)

def ct_curve_Point_Times (N : Nat) : Ct := fct (.cons (.agg (.one (.agg (.cons (.ints .u64 5) (.cons (.ints .u64 5) (.cons (.ints .u64 5) (.one (.ints .u64 5)))))))) (.one (.ints .u64 4))) (.agg (.one (.agg (.cons (.ints .u64 5) (.cons (.ints .u64 5) (.cons (.ints .u64 5) (.one (.ints .u64 5)))))))) fun x => curve_Point_Times N x.1 x.2
def cs_curve_Point_Times (N : Nat) : List (FuncId × Ct) := [(34, (ct_curve_Point_TimesBytes N)), (56, (ct_scalar_Scalar_Encode N))]
def gs_curve_Point_Times : List Gv := []
noncomputable def ls_curve_Point_Times (N : Nat) : List (Nat × Lf) := []
theorem r_curve_Point_Times (N : Nat) : ∀ x, run Tryd.prog (fun g => lkG g (cs_curve_Point_Times N)) (glAt gs_curve_Point_Times 0) (gs_curve_Point_Times.length + 0) (memAt gs_curve_Point_Times 0 ++ (unc gs_curve_Point_Times.length (Ag.mk ((.cons (.agg (.one (.agg (.cons (.ints .u64 5) (.cons (.ints .u64 5) (.cons (.ints .u64 5) (.one (.ints .u64 5)))))))) (.one (.ints .u64 4)))) x)).2) (fun i => lkL i (ls_curve_Point_Times N)) 100 Tryd.f37 (unc gs_curve_Point_Times.length (Ag.mk ((.cons (.agg (.one (.agg (.cons (.ints .u64 5) (.cons (.ints .u64 5) (.cons (.ints .u64 5) (.one (.ints .u64 5)))))))) (.one (.ints .u64 4)))) x)).1 none (Pt.get ((.agg (.one (.agg (.cons (.ints .u64 5) (.cons (.ints .u64 5) (.cons (.ints .u64 5) (.one (.ints .u64 5)))))))))) = curve_Point_Times N x.1 x.2 := by
  intro x; kernel_rfl
theorem s_curve_Point_Times {w0 : World} (N : Nat)  (h34 : SoundAt Tryd.prog w0 34 (ct_curve_Point_TimesBytes N)) (h56 : SoundAt Tryd.prog w0 56 (ct_scalar_Scalar_Encode N)) : SoundAt Tryd.prog w0 37 (ct_curve_Point_Times N) := by
  have hcs : ∀ x ∈ cs_curve_Point_Times N, SoundAt Tryd.prog w0 x.1 x.2 := by
    intro x hx
    simp only [cs_curve_Point_Times, List.mem_cons, List.not_mem_nil, or_false] at hx
    rcases hx with rfl | rfl
    · exact h34
    · exact h56
  exact fn_printed hcs (glob_nil _ _) Tryd.func37 (by kernel_rfl) (by kernel_rfl) (S := 0) (fun w _ => loopsOK_nil _) (fun _ => rfl) (r_curve_Point_Times N)
theorem k_curve_Point_Times {w0 : World} (N : Nat)  (hg_curve_place_whole : GlobOK Tryd.prog w0 gs_curve_place_whole) (hg_curve_Point_Add : GlobOK Tryd.prog w0 gs_curve_Point_Add) (hg_scalar_lower : GlobOK Tryd.prog w0 gs_scalar_lower) (hg_scalar_Scalar_Least : GlobOK Tryd.prog w0 gs_scalar_Scalar_Least) : SoundAt Tryd.prog w0 37 (ct_curve_Point_Times N) :=
  s_curve_Point_Times N (k_curve_Point_TimesBytes N hg_curve_place_whole hg_curve_Point_Add) (k_scalar_Scalar_Encode N hg_scalar_lower hg_scalar_Scalar_Least)

def ct_veillaw04_small : Ct := tct (.one (.int .i64)) (.ints .u8 32) fun x => veillaw04_small x
def cs_veillaw04_small : List (FuncId × Ct) := []
def gs_veillaw04_small : List Gv := []
noncomputable def ls_veillaw04_small : List (Nat × Lf) := []
theorem r_veillaw04_small : ∀ x, run Tryd.prog (fun g => lkG g (cs_veillaw04_small)) (glAt gs_veillaw04_small 0) (gs_veillaw04_small.length + 0) (memAt gs_veillaw04_small 0 ++ (unc gs_veillaw04_small.length (Ag.mk ((.one (.int .i64))) x)).2) (fun i => lkL i (ls_veillaw04_small)) 100 Tryd.f35 (unc gs_veillaw04_small.length (Ag.mk ((.one (.int .i64))) x)).1 none (Pt.get ((.ints .u8 32))) = some (veillaw04_small x) := by
  intro x; kernel_rfl
theorem s_veillaw04_small {w0 : World}  : SoundAt Tryd.prog w0 35 ct_veillaw04_small := by
  have hcs : ∀ x ∈ cs_veillaw04_small, SoundAt Tryd.prog w0 x.1 x.2 := by
    intro x hx
    simp [cs_veillaw04_small] at hx
  exact sound_tct (fn_printed hcs (glob_nil _ _) Tryd.func35 (by kernel_rfl) (by kernel_rfl) (S := 0) (fun w _ => loopsOK_nil _) (fun _ => rfl) (r_veillaw04_small)) fun _ _ => rfl
theorem k_veillaw04_small {w0 : World}  : SoundAt Tryd.prog w0 35 ct_veillaw04_small :=
  s_veillaw04_small

def ct_veillaw04_plus (N : Nat) : Ct := fct (.cons (.ints .u8 32) (.one (.ints .u8 32))) (.tup (.cons (.ints .u8 32) (.one .bool))) fun x => veillaw04_plus N x.1 x.2
def cs_veillaw04_plus (N : Nat) : List (FuncId × Ct) := []
def gs_veillaw04_plus : List Gv := []
def veillaw04_plus_l0_H : Fm ((Unit × Unit × Unit × Unit × Unit × Int × Int)) ((List Int × List Int × Unit × List Int)) := ⟨(.cons 2 (.lit (.ptr 0 [] 23)) (.cons 3 (.lit (.ptr 1 [] 23)) (.cons 4 (.lit (.ptr 2 [] 23)) (.cons 5 (.lit (.bool false)) (.cons 6 (.lit (.ptr 4 [] 23)) (.cons 7 (.int .i64) (.one 8 (.int .i64)))))))), (.cons 0 (.ints .u8 32) (.cons 1 (.ints .u8 32) (.cons 2 (.lit (.ints .u8 32 [0, 0, 0, 0, 0, 0, 0, 0, 0, 0, 0, 0, 0, 0, 0, 0, 0, 0, 0, 0, 0, 0, 0, 0, 0, 0, 0, 0, 0, 0, 0, 0])) (.one 4 (.ints .u8 32)))))⟩
def veillaw04_plus_l0_O : Fm ((Unit × Unit × Int)) ((Unit × List Int)) := ⟨(.cons 4 (.lit (.ptr 2 [] 23)) (.cons 6 (.lit (.ptr 4 [] 23)) (.one 7 (.int .i64)))), (.cons 2 (.lit (.ints .u8 32 [0, 0, 0, 0, 0, 0, 0, 0, 0, 0, 0, 0, 0, 0, 0, 0, 0, 0, 0, 0, 0, 0, 0, 0, 0, 0, 0, 0, 0, 0, 0, 0])) (.one 4 (.ints .u8 32)))⟩
def veillaw04_plus_l0_T : Fm (Unit) (Unit) := ⟨.nil, .nil⟩
noncomputable def ls_veillaw04_plus (N : Nat) : List (Nat × Lf) := [(0, loopCt veillaw04_plus_l0_H veillaw04_plus_l0_O veillaw04_plus_l0_T 7 (veillaw04_plus_l0 N) N)]
theorem veillaw04_plus_l0_step (N : Nat) : ∀ v, exec Tryd.prog (cxOf Tryd.f36 (cs_veillaw04_plus N) gs_veillaw04_plus 0) (fun i => lkL i (ls_veillaw04_plus N)) 100 none (loopBody Tryd.f36 0) (veillaw04_plus_l0_H.st 7 v) (rdEnd veillaw04_plus_l0_H veillaw04_plus_l0_O veillaw04_plus_l0_T 7 0) = veillaw04_plus_l0 N v := by
  intro v; kernel_rfl
theorem r_veillaw04_plus (N : Nat) : ∀ x, run Tryd.prog (fun g => lkG g (cs_veillaw04_plus N)) (glAt gs_veillaw04_plus 0) (gs_veillaw04_plus.length + 0) (memAt gs_veillaw04_plus 0 ++ (unc gs_veillaw04_plus.length (Ag.mk ((.cons (.ints .u8 32) (.one (.ints .u8 32)))) x)).2) (fun i => lkL i (ls_veillaw04_plus N)) 100 Tryd.f36 (unc gs_veillaw04_plus.length (Ag.mk ((.cons (.ints .u8 32) (.one (.ints .u8 32)))) x)).1 none (Pt.get ((.tup (.cons (.ints .u8 32) (.one .bool))))) = veillaw04_plus N x.1 x.2 := by
  intro x; kernel_rfl
theorem s_veillaw04_plus {w0 : World} (N : Nat)  : SoundAt Tryd.prog w0 36 (ct_veillaw04_plus N) := by
  have hcs : ∀ x ∈ cs_veillaw04_plus N, SoundAt Tryd.prog w0 x.1 x.2 := by
    intro x hx
    simp [cs_veillaw04_plus] at hx
  have L0 : ∀ w, RowKit.Below w0.heap.size w0 w → LoopOK Tryd.prog (cxOf Tryd.f36 (cs_veillaw04_plus N) gs_veillaw04_plus 0) w 0 (.loop (loopBody Tryd.f36 0)) (loopCt veillaw04_plus_l0_H veillaw04_plus_l0_O veillaw04_plus_l0_T 7 (veillaw04_plus_l0 N) N) :=
    loop_printed hcs (ls := ls_veillaw04_plus N) (n := 100) (by kernel_rfl) (veillaw04_plus_l0_step N) N fun w hw => loopsOK_list (by
      intro x hx
      simp only [ls_veillaw04_plus, List.mem_cons, List.not_mem_nil, or_false] at hx
      rcases hx with rfl
      · exact .inl (by kernel_rfl)
    )
  exact fn_printed hcs (glob_nil _ _) Tryd.func36 (by kernel_rfl) (by kernel_rfl) (S := 0) (fun w hw => loopsOK_list (by
    intro x hx
    simp only [ls_veillaw04_plus, List.mem_cons, List.not_mem_nil, or_false] at hx
    rcases hx with rfl
    · exact .inr ⟨_, by kernel_rfl, L0 w hw⟩
  )) (fun _ => rfl) (r_veillaw04_plus N)
theorem k_veillaw04_plus {w0 : World} (N : Nat)  : SoundAt Tryd.prog w0 36 (ct_veillaw04_plus N) :=
  s_veillaw04_plus N

def ct_veillaw04_below (N : Nat) : Ct := fct (.one (.ints .u8 32)) .bool fun x => veillaw04_below N x
def cs_veillaw04_below (N : Nat) : List (FuncId × Ct) := []
def gs_veillaw04_below : List Gv := [⟨0, 22, (.ints .u8 32 [237, 211, 245, 92, 26, 99, 18, 88, 214, 156, 247, 162, 222, 249, 222, 20, 0, 0, 0, 0, 0, 0, 0, 0, 0, 0, 0, 0, 0, 0, 0, 16])⟩]
def veillaw04_below_l0_H : Fm ((Unit × Unit × Int)) ((Unit × List Int)) := ⟨(.cons 1 (.lit (.ptr 1 [] 23)) (.cons 2 (.lit (.bool false)) (.one 3 (.int .i64)))), (.cons 0 (.lit (.ints .u8 32 [237, 211, 245, 92, 26, 99, 18, 88, 214, 156, 247, 162, 222, 249, 222, 20, 0, 0, 0, 0, 0, 0, 0, 0, 0, 0, 0, 0, 0, 0, 0, 16])) (.one 1 (.ints .u8 32)))⟩
def veillaw04_below_l0_O : Fm (Unit) (Unit) := ⟨.nil, (.one 0 (.lit (.ints .u8 32 [237, 211, 245, 92, 26, 99, 18, 88, 214, 156, 247, 162, 222, 249, 222, 20, 0, 0, 0, 0, 0, 0, 0, 0, 0, 0, 0, 0, 0, 0, 0, 16])))⟩
def veillaw04_below_l0_T : Fm (Bool) (Unit) := ⟨(.one 2 .bool), (.one 0 (.lit (.ints .u8 32 [237, 211, 245, 92, 26, 99, 18, 88, 214, 156, 247, 162, 222, 249, 222, 20, 0, 0, 0, 0, 0, 0, 0, 0, 0, 0, 0, 0, 0, 0, 0, 16])))⟩
noncomputable def ls_veillaw04_below (N : Nat) : List (Nat × Lf) := [(0, loopCt veillaw04_below_l0_H veillaw04_below_l0_O veillaw04_below_l0_T 4 (veillaw04_below_l0 N) N)]
theorem veillaw04_below_l0_step (N : Nat) : ∀ v, exec Tryd.prog (cxOf Tryd.f57 (cs_veillaw04_below N) gs_veillaw04_below 0) (fun i => lkL i (ls_veillaw04_below N)) 100 none (loopBody Tryd.f57 0) (veillaw04_below_l0_H.st 4 v) (rdEnd veillaw04_below_l0_H veillaw04_below_l0_O veillaw04_below_l0_T 4 0) = veillaw04_below_l0 N v := by
  intro v; kernel_rfl
theorem r_veillaw04_below (N : Nat) : ∀ x, run Tryd.prog (fun g => lkG g (cs_veillaw04_below N)) (glAt gs_veillaw04_below 0) (gs_veillaw04_below.length + 0) (memAt gs_veillaw04_below 0 ++ (unc gs_veillaw04_below.length (Ag.mk ((.one (.ints .u8 32))) x)).2) (fun i => lkL i (ls_veillaw04_below N)) 100 Tryd.f57 (unc gs_veillaw04_below.length (Ag.mk ((.one (.ints .u8 32))) x)).1 none (Pt.get (.bool)) = veillaw04_below N x := by
  intro x; kernel_rfl
theorem s_veillaw04_below {w0 : World} (N : Nat)  (hg : GlobOK Tryd.prog w0 gs_veillaw04_below) : SoundAt Tryd.prog w0 57 (ct_veillaw04_below N) := by
  have hcs : ∀ x ∈ cs_veillaw04_below N, SoundAt Tryd.prog w0 x.1 x.2 := by
    intro x hx
    simp [cs_veillaw04_below] at hx
  have L0 : ∀ w, RowKit.Below w0.heap.size w0 w → LoopOK Tryd.prog (cxOf Tryd.f57 (cs_veillaw04_below N) gs_veillaw04_below 0) w 0 (.loop (loopBody Tryd.f57 0)) (loopCt veillaw04_below_l0_H veillaw04_below_l0_O veillaw04_below_l0_T 4 (veillaw04_below_l0 N) N) :=
    loop_printed hcs (ls := ls_veillaw04_below N) (n := 100) (by kernel_rfl) (veillaw04_below_l0_step N) N fun w hw => loopsOK_list (by
      intro x hx
      simp only [ls_veillaw04_below, List.mem_cons, List.not_mem_nil, or_false] at hx
      rcases hx with rfl
      · exact .inl (by kernel_rfl)
    )
  exact fn_printed hcs hg Tryd.func57 (by kernel_rfl) (by kernel_rfl) (S := 0) (fun w hw => loopsOK_list (by
    intro x hx
    simp only [ls_veillaw04_below, List.mem_cons, List.not_mem_nil, or_false] at hx
    rcases hx with rfl
    · exact .inr ⟨_, by kernel_rfl, L0 w hw⟩
  )) (fun _ => rfl) (r_veillaw04_below N)
theorem k_veillaw04_below {w0 : World} (N : Nat)  (hg_veillaw04_below : GlobOK Tryd.prog w0 gs_veillaw04_below) : SoundAt Tryd.prog w0 57 (ct_veillaw04_below N) :=
  s_veillaw04_below N hg_veillaw04_below

def ct_veillaw04_Number (N : Nat) : Ct := fct (.one (.ints .u64 4)) (.ints .u8 32) fun x => veillaw04_Number N x
def cs_veillaw04_Number (N : Nat) : List (FuncId × Ct) := [(57, (ct_veillaw04_below N))]
def gs_veillaw04_Number : List Gv := [⟨0, 22, (.ints .u8 32 [237, 211, 245, 92, 26, 99, 18, 88, 214, 156, 247, 162, 222, 249, 222, 20, 0, 0, 0, 0, 0, 0, 0, 0, 0, 0, 0, 0, 0, 0, 0, 16])⟩]
def veillaw04_Number_l0_H : Fm ((Unit × Unit × Unit × Int)) ((Unit × List Int × Unit × List Int)) := ⟨(.cons 1 (.lit (.ptr 1 [] 26)) (.cons 2 (.lit (.ptr 2 [] 23)) (.cons 3 (.lit (.ptr 3 [] 23)) (.one 4 (.int .i64))))), (.cons 0 (.lit (.ints .u8 32 [237, 211, 245, 92, 26, 99, 18, 88, 214, 156, 247, 162, 222, 249, 222, 20, 0, 0, 0, 0, 0, 0, 0, 0, 0, 0, 0, 0, 0, 0, 0, 16])) (.cons 1 (.ints .u64 4) (.cons 2 (.lit (.ints .u8 32 [0, 0, 0, 0, 0, 0, 0, 0, 0, 0, 0, 0, 0, 0, 0, 0, 0, 0, 0, 0, 0, 0, 0, 0, 0, 0, 0, 0, 0, 0, 0, 0])) (.one 3 (.ints .u8 32)))))⟩
def veillaw04_Number_l0_O : Fm ((Unit × Unit)) ((Unit × Unit × List Int)) := ⟨(.cons 2 (.lit (.ptr 2 [] 23)) (.one 3 (.lit (.ptr 3 [] 23)))), (.cons 0 (.lit (.ints .u8 32 [237, 211, 245, 92, 26, 99, 18, 88, 214, 156, 247, 162, 222, 249, 222, 20, 0, 0, 0, 0, 0, 0, 0, 0, 0, 0, 0, 0, 0, 0, 0, 16])) (.cons 2 (.lit (.ints .u8 32 [0, 0, 0, 0, 0, 0, 0, 0, 0, 0, 0, 0, 0, 0, 0, 0, 0, 0, 0, 0, 0, 0, 0, 0, 0, 0, 0, 0, 0, 0, 0, 0])) (.one 3 (.ints .u8 32))))⟩
def veillaw04_Number_l0_T : Fm (Unit) (Unit) := ⟨.nil, .nil⟩
def veillaw04_Number_l4_H : Fm ((Unit × Unit × Int × Int)) ((Unit × Unit × List Int)) := ⟨(.cons 2 (.lit (.ptr 2 [] 23)) (.cons 3 (.lit (.ptr 3 [] 23)) (.cons 5 (.int .i64) (.one 6 (.int .i64))))), (.cons 0 (.lit (.ints .u8 32 [237, 211, 245, 92, 26, 99, 18, 88, 214, 156, 247, 162, 222, 249, 222, 20, 0, 0, 0, 0, 0, 0, 0, 0, 0, 0, 0, 0, 0, 0, 0, 16])) (.cons 2 (.lit (.ints .u8 32 [0, 0, 0, 0, 0, 0, 0, 0, 0, 0, 0, 0, 0, 0, 0, 0, 0, 0, 0, 0, 0, 0, 0, 0, 0, 0, 0, 0, 0, 0, 0, 0])) (.one 3 (.ints .u8 32))))⟩
def veillaw04_Number_l4_O : Fm ((Unit × Unit)) ((Unit × Unit × List Int)) := ⟨(.cons 2 (.lit (.ptr 2 [] 23)) (.one 3 (.lit (.ptr 3 [] 23)))), (.cons 0 (.lit (.ints .u8 32 [237, 211, 245, 92, 26, 99, 18, 88, 214, 156, 247, 162, 222, 249, 222, 20, 0, 0, 0, 0, 0, 0, 0, 0, 0, 0, 0, 0, 0, 0, 0, 16])) (.cons 2 (.lit (.ints .u8 32 [0, 0, 0, 0, 0, 0, 0, 0, 0, 0, 0, 0, 0, 0, 0, 0, 0, 0, 0, 0, 0, 0, 0, 0, 0, 0, 0, 0, 0, 0, 0, 0])) (.one 3 (.ints .u8 32))))⟩
def veillaw04_Number_l4_T : Fm (Unit) (Unit) := ⟨.nil, .nil⟩
def veillaw04_Number_l2_H : Fm ((Unit × Unit)) ((Unit × Unit × List Int)) := ⟨(.cons 2 (.lit (.ptr 2 [] 23)) (.one 3 (.lit (.ptr 3 [] 23)))), (.cons 0 (.lit (.ints .u8 32 [237, 211, 245, 92, 26, 99, 18, 88, 214, 156, 247, 162, 222, 249, 222, 20, 0, 0, 0, 0, 0, 0, 0, 0, 0, 0, 0, 0, 0, 0, 0, 16])) (.cons 2 (.lit (.ints .u8 32 [0, 0, 0, 0, 0, 0, 0, 0, 0, 0, 0, 0, 0, 0, 0, 0, 0, 0, 0, 0, 0, 0, 0, 0, 0, 0, 0, 0, 0, 0, 0, 0])) (.one 3 (.ints .u8 32))))⟩
def veillaw04_Number_l2_O : Fm ((Unit × Unit)) ((Unit × Unit × List Int)) := ⟨(.cons 2 (.lit (.ptr 2 [] 23)) (.one 3 (.lit (.ptr 3 [] 23)))), (.cons 0 (.lit (.ints .u8 32 [237, 211, 245, 92, 26, 99, 18, 88, 214, 156, 247, 162, 222, 249, 222, 20, 0, 0, 0, 0, 0, 0, 0, 0, 0, 0, 0, 0, 0, 0, 0, 16])) (.cons 2 (.lit (.ints .u8 32 [0, 0, 0, 0, 0, 0, 0, 0, 0, 0, 0, 0, 0, 0, 0, 0, 0, 0, 0, 0, 0, 0, 0, 0, 0, 0, 0, 0, 0, 0, 0, 0])) (.one 3 (.ints .u8 32))))⟩
def veillaw04_Number_l2_T : Fm (Unit) (Unit) := ⟨.nil, .nil⟩
noncomputable def ls_veillaw04_Number (N : Nat) : List (Nat × Lf) := [(0, loopCt veillaw04_Number_l0_H veillaw04_Number_l0_O veillaw04_Number_l0_T 5 (veillaw04_Number_l0 N) N), (4, loopCt veillaw04_Number_l4_H veillaw04_Number_l4_O veillaw04_Number_l4_T 10 (veillaw04_Number_l4 N) N), (2, loopCt veillaw04_Number_l2_H veillaw04_Number_l2_O veillaw04_Number_l2_T 5 (veillaw04_Number_l2 N) N)]
theorem veillaw04_Number_l0_step (N : Nat) : ∀ v, exec Tryd.prog (cxOf Tryd.f38 (cs_veillaw04_Number N) gs_veillaw04_Number 0) (fun i => lkL i (ls_veillaw04_Number N)) 100 none (loopBody Tryd.f38 0) (veillaw04_Number_l0_H.st 5 v) (rdEnd veillaw04_Number_l0_H veillaw04_Number_l0_O veillaw04_Number_l0_T 5 0) = veillaw04_Number_l0 N v := by
  intro v; kernel_rfl
theorem veillaw04_Number_l4_step (N : Nat) : ∀ v, exec Tryd.prog (cxOf Tryd.f38 (cs_veillaw04_Number N) gs_veillaw04_Number 0) (fun i => lkL i (ls_veillaw04_Number N)) 100 none (loopBody Tryd.f38 4) (veillaw04_Number_l4_H.st 10 v) (rdEnd veillaw04_Number_l4_H veillaw04_Number_l4_O veillaw04_Number_l4_T 10 4) = veillaw04_Number_l4 N v := by
  intro v; kernel_rfl
theorem veillaw04_Number_l2_step (N : Nat) : ∀ v, exec Tryd.prog (cxOf Tryd.f38 (cs_veillaw04_Number N) gs_veillaw04_Number 0) (fun i => lkL i (ls_veillaw04_Number N)) 100 none (loopBody Tryd.f38 2) (veillaw04_Number_l2_H.st 5 v) (rdEnd veillaw04_Number_l2_H veillaw04_Number_l2_O veillaw04_Number_l2_T 5 2) = veillaw04_Number_l2 N v := by
  intro v; kernel_rfl
theorem r_veillaw04_Number (N : Nat) : ∀ x, run Tryd.prog (fun g => lkG g (cs_veillaw04_Number N)) (glAt gs_veillaw04_Number 0) (gs_veillaw04_Number.length + 0) (memAt gs_veillaw04_Number 0 ++ (unc gs_veillaw04_Number.length (Ag.mk ((.one (.ints .u64 4))) x)).2) (fun i => lkL i (ls_veillaw04_Number N)) 100 Tryd.f38 (unc gs_veillaw04_Number.length (Ag.mk ((.one (.ints .u64 4))) x)).1 none (Pt.get ((.ints .u8 32))) = veillaw04_Number N x := by
  intro x; kernel_rfl
theorem s_veillaw04_Number {w0 : World} (N : Nat)  (h57 : SoundAt Tryd.prog w0 57 (ct_veillaw04_below N)) (hg : GlobOK Tryd.prog w0 gs_veillaw04_Number) : SoundAt Tryd.prog w0 38 (ct_veillaw04_Number N) := by
  have hcs : ∀ x ∈ cs_veillaw04_Number N, SoundAt Tryd.prog w0 x.1 x.2 := by
    intro x hx
    simp only [cs_veillaw04_Number, List.mem_cons, List.not_mem_nil, or_false] at hx
    rcases hx with rfl
    · exact h57
  have L0 : ∀ w, RowKit.Below w0.heap.size w0 w → LoopOK Tryd.prog (cxOf Tryd.f38 (cs_veillaw04_Number N) gs_veillaw04_Number 0) w 0 (.loop (loopBody Tryd.f38 0)) (loopCt veillaw04_Number_l0_H veillaw04_Number_l0_O veillaw04_Number_l0_T 5 (veillaw04_Number_l0 N) N) :=
    loop_printed hcs (ls := ls_veillaw04_Number N) (n := 100) (by kernel_rfl) (veillaw04_Number_l0_step N) N fun w hw => loopsOK_list (by
      intro x hx
      simp only [ls_veillaw04_Number, List.mem_cons, List.not_mem_nil, or_false] at hx
      rcases hx with rfl | rfl | rfl
      · exact .inl (by kernel_rfl)
      · exact .inl (by kernel_rfl)
      · exact .inl (by kernel_rfl)
    )
  have L4 : ∀ w, RowKit.Below w0.heap.size w0 w → LoopOK Tryd.prog (cxOf Tryd.f38 (cs_veillaw04_Number N) gs_veillaw04_Number 0) w 4 (.loop (loopBody Tryd.f38 4)) (loopCt veillaw04_Number_l4_H veillaw04_Number_l4_O veillaw04_Number_l4_T 10 (veillaw04_Number_l4 N) N) :=
    loop_printed hcs (ls := ls_veillaw04_Number N) (n := 100) (by kernel_rfl) (veillaw04_Number_l4_step N) N fun w hw => loopsOK_list (by
      intro x hx
      simp only [ls_veillaw04_Number, List.mem_cons, List.not_mem_nil, or_false] at hx
      rcases hx with rfl | rfl | rfl
      · exact .inl (by kernel_rfl)
      · exact .inl (by kernel_rfl)
      · exact .inl (by kernel_rfl)
    )
  have L2 : ∀ w, RowKit.Below w0.heap.size w0 w → LoopOK Tryd.prog (cxOf Tryd.f38 (cs_veillaw04_Number N) gs_veillaw04_Number 0) w 2 (.loop (loopBody Tryd.f38 2)) (loopCt veillaw04_Number_l2_H veillaw04_Number_l2_O veillaw04_Number_l2_T 5 (veillaw04_Number_l2 N) N) :=
    loop_printed hcs (ls := ls_veillaw04_Number N) (n := 100) (by kernel_rfl) (veillaw04_Number_l2_step N) N fun w hw => loopsOK_list (by
      intro x hx
      simp only [ls_veillaw04_Number, List.mem_cons, List.not_mem_nil, or_false] at hx
      rcases hx with rfl | rfl | rfl
      · exact .inl (by kernel_rfl)
      · exact .inr ⟨_, by kernel_rfl, L4 w hw⟩
      · exact .inl (by kernel_rfl)
    )
  exact fn_printed hcs hg Tryd.func38 (by kernel_rfl) (by kernel_rfl) (S := 0) (fun w hw => loopsOK_list (by
    intro x hx
    simp only [ls_veillaw04_Number, List.mem_cons, List.not_mem_nil, or_false] at hx
    rcases hx with rfl | rfl | rfl
    · exact .inr ⟨_, by kernel_rfl, L0 w hw⟩
    · exact .inr ⟨_, by kernel_rfl, L4 w hw⟩
    · exact .inr ⟨_, by kernel_rfl, L2 w hw⟩
  )) (fun _ => rfl) (r_veillaw04_Number N)
theorem k_veillaw04_Number {w0 : World} (N : Nat)  (hg_veillaw04_below : GlobOK Tryd.prog w0 gs_veillaw04_below) (hg_veillaw04_Number : GlobOK Tryd.prog w0 gs_veillaw04_Number) : SoundAt Tryd.prog w0 38 (ct_veillaw04_Number N) :=
  s_veillaw04_Number N (k_veillaw04_below N hg_veillaw04_below) hg_veillaw04_Number

def ct_veillaw04_CurveMultiples (N : Nat) : Ct := fct (.cons (.agg (.cons (.int .i64) (.cons (.int .i64) (.cons (.int .i64) (.cons (.int .i64) (.cons (.ints .u8 32) (.cons (.ints .u64 4) (.cons (.ints .u64 5) (.one (.ints .u64 5)))))))))) (.cons (.agg (.cons (.int .i64) (.cons (.int .i64) (.cons (.int .i64) (.cons (.int .i64) (.cons (.ints .u8 32) (.cons (.ints .u64 4) (.cons (.ints .u64 5) (.one (.ints .u64 5)))))))))) (.cons (.ints .u8 32) (.cons (.ints .u8 32) (.cons (.int .i64) (.one (.ints .u64 4))))))) .bool fun x => veillaw04_CurveMultiples N x.1 x.2.1 x.2.2.1 x.2.2.2.1 x.2.2.2.2.1 x.2.2.2.2.2
def cs_veillaw04_CurveMultiples (N : Nat) : List (FuncId × Ct) := [(7, (ct_veillaw04_live N)), (13, ct_curve_Point_Same), (15, ct_curve_Point_Double), (16, ct_curve_Point_Add), (17, ct_veillaw04_around), (18, (ct_veillaw04_point N)), (34, (ct_curve_Point_TimesBytes N)), (35, ct_veillaw04_small), (36, (ct_veillaw04_plus N)), (37, (ct_curve_Point_Times N)), (38, (ct_veillaw04_Number N))]
def gs_veillaw04_CurveMultiples : List Gv := [⟨0, 22, (.ints .u8 32 [237, 211, 245, 92, 26, 99, 18, 88, 214, 156, 247, 162, 222, 249, 222, 20, 0, 0, 0, 0, 0, 0, 0, 0, 0, 0, 0, 0, 0, 0, 0, 16])⟩]
def veillaw04_CurveMultiples_l0_H : Fm ((Unit × Unit × Unit × Int × Unit × Int)) ((Unit × List Int × (List Int × List Int × List Int × List Int) × (List Int × List Int × List Int × List Int))) := ⟨(.cons 11 (.lit (.ptr 5 [] 26)) (.cons 12 (.lit (.bool false)) (.cons 13 (.lit (.ptr 13 [] 35)) (.cons 20 (.int .i64) (.cons 21 (.lit (.ptr 87 [] 35)) (.one 22 (.int .i64))))))), (.cons 0 (.lit (.ints .u8 32 [237, 211, 245, 92, 26, 99, 18, 88, 214, 156, 247, 162, 222, 249, 222, 20, 0, 0, 0, 0, 0, 0, 0, 0, 0, 0, 0, 0, 0, 0, 0, 16])) (.cons 5 (.ints .u64 4) (.cons 13 (.agg (.one (.agg (.cons (.ints .u64 5) (.cons (.ints .u64 5) (.cons (.ints .u64 5) (.one (.ints .u64 5)))))))) (.one 87 (.agg (.one (.agg (.cons (.ints .u64 5) (.cons (.ints .u64 5) (.cons (.ints .u64 5) (.one (.ints .u64 5))))))))))))⟩
def veillaw04_CurveMultiples_l0_O : Fm ((Unit × Unit × Int × Unit)) ((Unit × List Int × (List Int × List Int × List Int × List Int) × (List Int × List Int × List Int × List Int))) := ⟨(.cons 11 (.lit (.ptr 5 [] 26)) (.cons 13 (.lit (.ptr 13 [] 35)) (.cons 20 (.int .i64) (.one 21 (.lit (.ptr 87 [] 35)))))), (.cons 0 (.lit (.ints .u8 32 [237, 211, 245, 92, 26, 99, 18, 88, 214, 156, 247, 162, 222, 249, 222, 20, 0, 0, 0, 0, 0, 0, 0, 0, 0, 0, 0, 0, 0, 0, 0, 16])) (.cons 5 (.ints .u64 4) (.cons 13 (.agg (.one (.agg (.cons (.ints .u64 5) (.cons (.ints .u64 5) (.cons (.ints .u64 5) (.one (.ints .u64 5)))))))) (.one 87 (.agg (.one (.agg (.cons (.ints .u64 5) (.cons (.ints .u64 5) (.cons (.ints .u64 5) (.one (.ints .u64 5))))))))))))⟩
def veillaw04_CurveMultiples_l0_T : Fm (Unit) (Unit) := ⟨.nil, .nil⟩
noncomputable def ls_veillaw04_CurveMultiples (N : Nat) : List (Nat × Lf) := [(0, loopCt veillaw04_CurveMultiples_l0_H veillaw04_CurveMultiples_l0_O veillaw04_CurveMultiples_l0_T 90 (veillaw04_CurveMultiples_l0 N) N)]
theorem veillaw04_CurveMultiples_l0_step (N : Nat) : ∀ v, exec Tryd.prog (cxOf Tryd.f6 (cs_veillaw04_CurveMultiples N) gs_veillaw04_CurveMultiples 0) (fun i => lkL i (ls_veillaw04_CurveMultiples N)) 100 none (loopBody Tryd.f6 0) (veillaw04_CurveMultiples_l0_H.st 90 v) (rdEnd veillaw04_CurveMultiples_l0_H veillaw04_CurveMultiples_l0_O veillaw04_CurveMultiples_l0_T 90 0) = veillaw04_CurveMultiples_l0 N v := by
  intro v; kernel_rfl
theorem r_veillaw04_CurveMultiples (N : Nat) : ∀ x, run Tryd.prog (fun g => lkG g (cs_veillaw04_CurveMultiples N)) (glAt gs_veillaw04_CurveMultiples 0) (gs_veillaw04_CurveMultiples.length + 0) (memAt gs_veillaw04_CurveMultiples 0 ++ (unc gs_veillaw04_CurveMultiples.length (Ag.mk ((.cons (.agg (.cons (.int .i64) (.cons (.int .i64) (.cons (.int .i64) (.cons (.int .i64) (.cons (.ints .u8 32) (.cons (.ints .u64 4) (.cons (.ints .u64 5) (.one (.ints .u64 5)))))))))) (.cons (.agg (.cons (.int .i64) (.cons (.int .i64) (.cons (.int .i64) (.cons (.int .i64) (.cons (.ints .u8 32) (.cons (.ints .u64 4) (.cons (.ints .u64 5) (.one (.ints .u64 5)))))))))) (.cons (.ints .u8 32) (.cons (.ints .u8 32) (.cons (.int .i64) (.one (.ints .u64 4)))))))) x)).2) (fun i => lkL i (ls_veillaw04_CurveMultiples N)) 100 Tryd.f6 (unc gs_veillaw04_CurveMultiples.length (Ag.mk ((.cons (.agg (.cons (.int .i64) (.cons (.int .i64) (.cons (.int .i64) (.cons (.int .i64) (.cons (.ints .u8 32) (.cons (.ints .u64 4) (.cons (.ints .u64 5) (.one (.ints .u64 5)))))))))) (.cons (.agg (.cons (.int .i64) (.cons (.int .i64) (.cons (.int .i64) (.cons (.int .i64) (.cons (.ints .u8 32) (.cons (.ints .u64 4) (.cons (.ints .u64 5) (.one (.ints .u64 5)))))))))) (.cons (.ints .u8 32) (.cons (.ints .u8 32) (.cons (.int .i64) (.one (.ints .u64 4)))))))) x)).1 none (Pt.get (.bool)) = veillaw04_CurveMultiples N x.1 x.2.1 x.2.2.1 x.2.2.2.1 x.2.2.2.2.1 x.2.2.2.2.2 := by
  intro x; kernel_rfl
theorem s_veillaw04_CurveMultiples {w0 : World} (N : Nat)  (h7 : SoundAt Tryd.prog w0 7 (ct_veillaw04_live N)) (h13 : SoundAt Tryd.prog w0 13 ct_curve_Point_Same) (h15 : SoundAt Tryd.prog w0 15 ct_curve_Point_Double) (h16 : SoundAt Tryd.prog w0 16 ct_curve_Point_Add) (h17 : SoundAt Tryd.prog w0 17 ct_veillaw04_around) (h18 : SoundAt Tryd.prog w0 18 (ct_veillaw04_point N)) (h34 : SoundAt Tryd.prog w0 34 (ct_curve_Point_TimesBytes N)) (h35 : SoundAt Tryd.prog w0 35 ct_veillaw04_small) (h36 : SoundAt Tryd.prog w0 36 (ct_veillaw04_plus N)) (h37 : SoundAt Tryd.prog w0 37 (ct_curve_Point_Times N)) (h38 : SoundAt Tryd.prog w0 38 (ct_veillaw04_Number N)) (hg : GlobOK Tryd.prog w0 gs_veillaw04_CurveMultiples) : SoundAt Tryd.prog w0 6 (ct_veillaw04_CurveMultiples N) := by
  have hcs : ∀ x ∈ cs_veillaw04_CurveMultiples N, SoundAt Tryd.prog w0 x.1 x.2 := by
    intro x hx
    simp only [cs_veillaw04_CurveMultiples, List.mem_cons, List.not_mem_nil, or_false] at hx
    rcases hx with rfl | rfl | rfl | rfl | rfl | rfl | rfl | rfl | rfl | rfl | rfl
    · exact h7
    · exact h13
    · exact h15
    · exact h16
    · exact h17
    · exact h18
    · exact h34
    · exact h35
    · exact h36
    · exact h37
    · exact h38
  have L0 : ∀ w, RowKit.Below w0.heap.size w0 w → LoopOK Tryd.prog (cxOf Tryd.f6 (cs_veillaw04_CurveMultiples N) gs_veillaw04_CurveMultiples 0) w 0 (.loop (loopBody Tryd.f6 0)) (loopCt veillaw04_CurveMultiples_l0_H veillaw04_CurveMultiples_l0_O veillaw04_CurveMultiples_l0_T 90 (veillaw04_CurveMultiples_l0 N) N) :=
    loop_printed hcs (ls := ls_veillaw04_CurveMultiples N) (n := 100) (by kernel_rfl) (veillaw04_CurveMultiples_l0_step N) N fun w hw => loopsOK_list (by
      intro x hx
      simp only [ls_veillaw04_CurveMultiples, List.mem_cons, List.not_mem_nil, or_false] at hx
      rcases hx with rfl
      · exact .inl (by kernel_rfl)
    )
  exact fn_printed hcs hg Tryd.func6 (by kernel_rfl) (by kernel_rfl) (S := 0) (fun w hw => loopsOK_list (by
    intro x hx
    simp only [ls_veillaw04_CurveMultiples, List.mem_cons, List.not_mem_nil, or_false] at hx
    rcases hx with rfl
    · exact .inr ⟨_, by kernel_rfl, L0 w hw⟩
  )) (fun _ => rfl) (r_veillaw04_CurveMultiples N)
theorem k_veillaw04_CurveMultiples {w0 : World} (N : Nat)  (hg_curve_Torsion : GlobOK Tryd.prog w0 gs_curve_Torsion) (hg_curve_place_whole : GlobOK Tryd.prog w0 gs_curve_place_whole) (hg_curve_Point_Add : GlobOK Tryd.prog w0 gs_curve_Point_Add) (hg_curve_Point_Free : GlobOK Tryd.prog w0 gs_curve_Point_Free) (hg_curve_Base : GlobOK Tryd.prog w0 gs_curve_Base) (hg_veillaw04_live : GlobOK Tryd.prog w0 gs_veillaw04_live) (hg_field_Const : GlobOK Tryd.prog w0 gs_field_Const) (hg_field_SqrtRatio : GlobOK Tryd.prog w0 gs_field_SqrtRatio) (hg_curve_xOf : GlobOK Tryd.prog w0 gs_curve_xOf) (hg_curve_at : GlobOK Tryd.prog w0 gs_curve_at) (hg_curve_FromAffine : GlobOK Tryd.prog w0 gs_curve_FromAffine) (hg_scalar_lower : GlobOK Tryd.prog w0 gs_scalar_lower) (hg_scalar_Scalar_Least : GlobOK Tryd.prog w0 gs_scalar_Scalar_Least) (hg_veillaw04_below : GlobOK Tryd.prog w0 gs_veillaw04_below) (hg_veillaw04_Number : GlobOK Tryd.prog w0 gs_veillaw04_Number) (hg_veillaw04_CurveMultiples : GlobOK Tryd.prog w0 gs_veillaw04_CurveMultiples) : SoundAt Tryd.prog w0 6 (ct_veillaw04_CurveMultiples N) :=
  s_veillaw04_CurveMultiples N (k_veillaw04_live N hg_curve_Torsion hg_curve_place_whole hg_curve_Point_Add hg_curve_Point_Free hg_curve_Base hg_veillaw04_live) (k_curve_Point_Same hg_curve_place_whole) (k_curve_Point_Double hg_curve_place_whole) (k_curve_Point_Add hg_curve_place_whole hg_curve_Point_Add) (k_veillaw04_around) (k_veillaw04_point N hg_curve_Torsion hg_curve_place_whole hg_curve_Point_Add hg_field_Const hg_field_SqrtRatio hg_curve_xOf hg_curve_at hg_curve_FromAffine hg_curve_Base) (k_curve_Point_TimesBytes N hg_curve_place_whole hg_curve_Point_Add) (k_veillaw04_small) (k_veillaw04_plus N) (k_curve_Point_Times N hg_curve_place_whole hg_curve_Point_Add hg_scalar_lower hg_scalar_Scalar_Least) (k_veillaw04_Number N hg_veillaw04_below hg_veillaw04_Number) hg_veillaw04_CurveMultiples

end Go.Vx
