import Derived.Test.YtnhillmnkbfgoaaDoorFp
import Derived.Test.YtnhillmnkbfgoaaDoorProg
import Derived.Test.YtnhillmnkbfgoaaDoorVxU
set_option autoImplicit false
set_option linter.unusedVariables false
set_option linter.unusedSimpArgs false
namespace Go.Vx
open Go Go.Proofs

def ct_bits_Add64 : Ct := fct (.cons (.int .u64) (.cons (.int .u64) (.one (.int .u64)))) (.tup (.cons (.int .u64) (.one (.int .u64)))) fun x => bits_Add64 x.1 x.2.1 x.2.2

theorem k_bits_Add64 {w0 : World} : SoundAt Tryd.prog w0 64 ct_bits_Add64 :=
  sound_add64 Tryd.func64 (by kernel_rfl) (by kernel_rfl) (by kernel_rfl) (by kernel_rfl)

def ct_bits_Sub64 : Ct := fct (.cons (.int .u64) (.cons (.int .u64) (.one (.int .u64)))) (.tup (.cons (.int .u64) (.one (.int .u64)))) fun x => bits_Sub64 x.1 x.2.1 x.2.2

theorem k_bits_Sub64 {w0 : World} : SoundAt Tryd.prog w0 88 ct_bits_Sub64 :=
  sound_sub64 Tryd.func88 (by kernel_rfl) (by kernel_rfl) (by kernel_rfl) (by kernel_rfl)

def ct_bytealg_Compare : Ct := tct (.cons (.tup (.cons (.lst .u8) (.one (.lit (.clo 5 []))))) (.one (.tup (.cons (.lst .u8) (.one (.lit (.clo 5 []))))))) (.int .i64) fun x => bytealg_Compare x.1 x.2

theorem k_bytealg_Compare {w0 : World} : SoundAt Tryd.prog w0 79 ct_bytealg_Compare :=
  sound_compare Tryd.func79 (by kernel_rfl) (by kernel_rfl) (by kernel_rfl) (by kernel_rfl)

def ct_field_Elem_light : Ct := tct (.one (.ints .u64 5)) (.ints .u64 5) fun x => field_Elem_light x
def cs_field_Elem_light : List (FuncId × Ct) := []
def gs_field_Elem_light : List Gv := []
noncomputable def ls_field_Elem_light : List (Nat × Lf) := []
theorem r_field_Elem_light : ∀ x, run Tryd.prog (fun g => lkG g (cs_field_Elem_light)) (glAt gs_field_Elem_light 0) (gs_field_Elem_light.length + 0) (memAt gs_field_Elem_light 0 ++ (unc gs_field_Elem_light.length (Ag.mk ((.one (.ints .u64 5))) x)).2) (fun i => lkL i (ls_field_Elem_light)) 100 Tryd.f62 (unc gs_field_Elem_light.length (Ag.mk ((.one (.ints .u64 5))) x)).1 none (Pt.get ((.ints .u64 5))) = some (field_Elem_light x) := by
  intro x; kernel_rfl
theorem s_field_Elem_light {w0 : World}  : SoundAt Tryd.prog w0 62 ct_field_Elem_light := by
  have hcs : ∀ x ∈ cs_field_Elem_light, SoundAt Tryd.prog w0 x.1 x.2 := by
    intro x hx
    simp [cs_field_Elem_light] at hx
  exact sound_tct (fn_printed hcs (glob_nil _ _) Tryd.func62 (by kernel_rfl) (by kernel_rfl) (S := 0) (fun w _ => loopsOK_nil _) (fun _ => rfl) (r_field_Elem_light)) fun _ _ => rfl
theorem k_field_Elem_light {w0 : World}  : SoundAt Tryd.prog w0 62 ct_field_Elem_light :=
  s_field_Elem_light

def ct_field_Elem_Least : Ct := tct (.one (.ints .u64 5)) (.ints .u64 5) fun x => field_Elem_Least x
def cs_field_Elem_Least : List (FuncId × Ct) := [(62, ct_field_Elem_light)]
def gs_field_Elem_Least : List Gv := []
noncomputable def ls_field_Elem_Least : List (Nat × Lf) := []
theorem r_field_Elem_Least : ∀ x, run Tryd.prog (fun g => lkG g (cs_field_Elem_Least)) (glAt gs_field_Elem_Least 0) (gs_field_Elem_Least.length + 0) (memAt gs_field_Elem_Least 0 ++ (unc gs_field_Elem_Least.length (Ag.mk ((.one (.ints .u64 5))) x)).2) (fun i => lkL i (ls_field_Elem_Least)) 100 Tryd.f24 (unc gs_field_Elem_Least.length (Ag.mk ((.one (.ints .u64 5))) x)).1 none (Pt.get ((.ints .u64 5))) = some (field_Elem_Least x) := by
  intro x; kernel_rfl
theorem s_field_Elem_Least {w0 : World}  (h62 : SoundAt Tryd.prog w0 62 ct_field_Elem_light) : SoundAt Tryd.prog w0 24 ct_field_Elem_Least := by
  have hcs : ∀ x ∈ cs_field_Elem_Least, SoundAt Tryd.prog w0 x.1 x.2 := by
    intro x hx
    simp only [cs_field_Elem_Least, List.mem_cons, List.not_mem_nil, or_false] at hx
    rcases hx with rfl
    · exact h62
  exact sound_tct (fn_printed hcs (glob_nil _ _) Tryd.func24 (by kernel_rfl) (by kernel_rfl) (S := 0) (fun w _ => loopsOK_nil _) (fun _ => rfl) (r_field_Elem_Least)) fun _ _ => rfl
theorem k_field_Elem_Least {w0 : World}  : SoundAt Tryd.prog w0 24 ct_field_Elem_Least :=
  s_field_Elem_Least (k_field_Elem_light)

def ct_field_Elem_slim : Ct := tct (.one (.ints .u64 5)) .bool fun x => field_Elem_slim x
def cs_field_Elem_slim : List (FuncId × Ct) := []
def gs_field_Elem_slim : List Gv := []
noncomputable def ls_field_Elem_slim : List (Nat × Lf) := []
theorem r_field_Elem_slim : ∀ x, run Tryd.prog (fun g => lkG g (cs_field_Elem_slim)) (glAt gs_field_Elem_slim 0) (gs_field_Elem_slim.length + 0) (memAt gs_field_Elem_slim 0 ++ (unc gs_field_Elem_slim.length (Ag.mk ((.one (.ints .u64 5))) x)).2) (fun i => lkL i (ls_field_Elem_slim)) 100 Tryd.f80 (unc gs_field_Elem_slim.length (Ag.mk ((.one (.ints .u64 5))) x)).1 none (Pt.get (.bool)) = some (field_Elem_slim x) := by
  intro x; kernel_rfl
theorem s_field_Elem_slim {w0 : World}  : SoundAt Tryd.prog w0 80 ct_field_Elem_slim := by
  have hcs : ∀ x ∈ cs_field_Elem_slim, SoundAt Tryd.prog w0 x.1 x.2 := by
    intro x hx
    simp [cs_field_Elem_slim] at hx
  exact sound_tct (fn_printed hcs (glob_nil _ _) Tryd.func80 (by kernel_rfl) (by kernel_rfl) (S := 0) (fun w _ => loopsOK_nil _) (fun _ => rfl) (r_field_Elem_slim)) fun _ _ => rfl
theorem k_field_Elem_slim {w0 : World}  : SoundAt Tryd.prog w0 80 ct_field_Elem_slim :=
  s_field_Elem_slim

def ct_field_last : Ct := tct (.cons (.int .u64) (.cons (.int .u64) (.cons (.int .u64) (.cons (.int .u64) (.one (.int .u64)))))) (.ints .u64 5) fun x => field_last x.1 x.2.1 x.2.2.1 x.2.2.2.1 x.2.2.2.2
def cs_field_last : List (FuncId × Ct) := []
def gs_field_last : List Gv := []
noncomputable def ls_field_last : List (Nat × Lf) := []
theorem r_field_last : ∀ x, run Tryd.prog (fun g => lkG g (cs_field_last)) (glAt gs_field_last 0) (gs_field_last.length + 0) (memAt gs_field_last 0 ++ (unc gs_field_last.length (Ag.mk ((.cons (.int .u64) (.cons (.int .u64) (.cons (.int .u64) (.cons (.int .u64) (.one (.int .u64))))))) x)).2) (fun i => lkL i (ls_field_last)) 100 Tryd.f100 (unc gs_field_last.length (Ag.mk ((.cons (.int .u64) (.cons (.int .u64) (.cons (.int .u64) (.cons (.int .u64) (.one (.int .u64))))))) x)).1 none (Pt.get ((.ints .u64 5))) = some (field_last x.1 x.2.1 x.2.2.1 x.2.2.2.1 x.2.2.2.2) := by
  intro x; kernel_rfl
theorem s_field_last {w0 : World}  : SoundAt Tryd.prog w0 100 ct_field_last := by
  have hcs : ∀ x ∈ cs_field_last, SoundAt Tryd.prog w0 x.1 x.2 := by
    intro x hx
    simp [cs_field_last] at hx
  exact sound_tct (fn_printed hcs (glob_nil _ _) Tryd.func100 (by kernel_rfl) (by kernel_rfl) (S := 0) (fun w _ => loopsOK_nil _) (fun _ => rfl) (r_field_last)) fun _ _ => rfl
theorem k_field_last {w0 : World}  : SoundAt Tryd.prog w0 100 ct_field_last :=
  s_field_last

def ct_field_closed : Ct := tct (.cons (.int .u64) (.cons (.int .u64) (.cons (.int .u64) (.cons (.int .u64) (.one (.int .u64)))))) (.ints .u64 5) fun x => field_closed x.1 x.2.1 x.2.2.1 x.2.2.2.1 x.2.2.2.2
def cs_field_closed : List (FuncId × Ct) := [(100, ct_field_last)]
def gs_field_closed : List Gv := []
noncomputable def ls_field_closed : List (Nat × Lf) := []
theorem r_field_closed : ∀ x, run Tryd.prog (fun g => lkG g (cs_field_closed)) (glAt gs_field_closed 0) (gs_field_closed.length + 0) (memAt gs_field_closed 0 ++ (unc gs_field_closed.length (Ag.mk ((.cons (.int .u64) (.cons (.int .u64) (.cons (.int .u64) (.cons (.int .u64) (.one (.int .u64))))))) x)).2) (fun i => lkL i (ls_field_closed)) 100 Tryd.f83 (unc gs_field_closed.length (Ag.mk ((.cons (.int .u64) (.cons (.int .u64) (.cons (.int .u64) (.cons (.int .u64) (.one (.int .u64))))))) x)).1 none (Pt.get ((.ints .u64 5))) = field_closed_o x.1 x.2.1 x.2.2.1 x.2.2.2.1 x.2.2.2.2 := by
  intro x; kernel_rfl
theorem s_field_closed {w0 : World}  (h100 : SoundAt Tryd.prog w0 100 ct_field_last) : SoundAt Tryd.prog w0 83 ct_field_closed := by
  have hcs : ∀ x ∈ cs_field_closed, SoundAt Tryd.prog w0 x.1 x.2 := by
    intro x hx
    simp only [cs_field_closed, List.mem_cons, List.not_mem_nil, or_false] at hx
    rcases hx with rfl
    · exact h100
  exact sound_tct (fn_printed hcs (glob_nil _ _) Tryd.func83 (by kernel_rfl) (by kernel_rfl) (S := 0) (fun w _ => loopsOK_nil _) (fun _ => rfl) (r_field_closed)) fun _ _ => field_closed_tot _ _ _ _ _
theorem k_field_closed {w0 : World}  : SoundAt Tryd.prog w0 83 ct_field_closed :=
  s_field_closed (k_field_last)

def ct_field_Elem_Add : Ct := tct (.cons (.ints .u64 5) (.one (.ints .u64 5))) (.ints .u64 5) fun x => field_Elem_Add x.1 x.2
def cs_field_Elem_Add : List (FuncId × Ct) := [(24, ct_field_Elem_Least), (80, ct_field_Elem_slim), (83, ct_field_closed)]
def gs_field_Elem_Add : List Gv := []
noncomputable def ls_field_Elem_Add : List (Nat × Lf) := []
theorem r_field_Elem_Add : ∀ x, run Tryd.prog (fun g => lkG g (cs_field_Elem_Add)) (glAt gs_field_Elem_Add 0) (gs_field_Elem_Add.length + 0) (memAt gs_field_Elem_Add 0 ++ (unc gs_field_Elem_Add.length (Ag.mk ((.cons (.ints .u64 5) (.one (.ints .u64 5)))) x)).2) (fun i => lkL i (ls_field_Elem_Add)) 100 Tryd.f51 (unc gs_field_Elem_Add.length (Ag.mk ((.cons (.ints .u64 5) (.one (.ints .u64 5)))) x)).1 none (Pt.get ((.ints .u64 5))) = field_Elem_Add_o x.1 x.2 := by
  intro x; kernel_rfl
theorem s_field_Elem_Add {w0 : World}  (h24 : SoundAt Tryd.prog w0 24 ct_field_Elem_Least) (h80 : SoundAt Tryd.prog w0 80 ct_field_Elem_slim) (h83 : SoundAt Tryd.prog w0 83 ct_field_closed) : SoundAt Tryd.prog w0 51 ct_field_Elem_Add := by
  have hcs : ∀ x ∈ cs_field_Elem_Add, SoundAt Tryd.prog w0 x.1 x.2 := by
    intro x hx
    simp only [cs_field_Elem_Add, List.mem_cons, List.not_mem_nil, or_false] at hx
    rcases hx with rfl | rfl | rfl
    · exact h24
    · exact h80
    · exact h83
  exact sound_tct (fn_printed hcs (glob_nil _ _) Tryd.func51 (by kernel_rfl) (by kernel_rfl) (S := 0) (fun w _ => loopsOK_nil _) (fun _ => rfl) (r_field_Elem_Add)) fun _ _ => field_Elem_Add_tot _ _
theorem k_field_Elem_Add {w0 : World}  : SoundAt Tryd.prog w0 51 ct_field_Elem_Add :=
  s_field_Elem_Add (k_field_Elem_Least) (k_field_Elem_slim) (k_field_closed)

def ct_field_Elem_Sub : Ct := tct (.cons (.ints .u64 5) (.one (.ints .u64 5))) (.ints .u64 5) fun x => field_Elem_Sub x.1 x.2
def cs_field_Elem_Sub : List (FuncId × Ct) := [(24, ct_field_Elem_Least), (80, ct_field_Elem_slim), (83, ct_field_closed)]
def gs_field_Elem_Sub : List Gv := []
noncomputable def ls_field_Elem_Sub : List (Nat × Lf) := []
theorem r_field_Elem_Sub : ∀ x, run Tryd.prog (fun g => lkG g (cs_field_Elem_Sub)) (glAt gs_field_Elem_Sub 0) (gs_field_Elem_Sub.length + 0) (memAt gs_field_Elem_Sub 0 ++ (unc gs_field_Elem_Sub.length (Ag.mk ((.cons (.ints .u64 5) (.one (.ints .u64 5)))) x)).2) (fun i => lkL i (ls_field_Elem_Sub)) 100 Tryd.f52 (unc gs_field_Elem_Sub.length (Ag.mk ((.cons (.ints .u64 5) (.one (.ints .u64 5)))) x)).1 none (Pt.get ((.ints .u64 5))) = field_Elem_Sub_o x.1 x.2 := by
  intro x; kernel_rfl
theorem s_field_Elem_Sub {w0 : World}  (h24 : SoundAt Tryd.prog w0 24 ct_field_Elem_Least) (h80 : SoundAt Tryd.prog w0 80 ct_field_Elem_slim) (h83 : SoundAt Tryd.prog w0 83 ct_field_closed) : SoundAt Tryd.prog w0 52 ct_field_Elem_Sub := by
  have hcs : ∀ x ∈ cs_field_Elem_Sub, SoundAt Tryd.prog w0 x.1 x.2 := by
    intro x hx
    simp only [cs_field_Elem_Sub, List.mem_cons, List.not_mem_nil, or_false] at hx
    rcases hx with rfl | rfl | rfl
    · exact h24
    · exact h80
    · exact h83
  exact sound_tct (fn_printed hcs (glob_nil _ _) Tryd.func52 (by kernel_rfl) (by kernel_rfl) (S := 0) (fun w _ => loopsOK_nil _) (fun _ => rfl) (r_field_Elem_Sub)) fun _ _ => field_Elem_Sub_tot _ _
theorem k_field_Elem_Sub {w0 : World}  : SoundAt Tryd.prog w0 52 ct_field_Elem_Sub :=
  s_field_Elem_Sub (k_field_Elem_Least) (k_field_Elem_slim) (k_field_closed)

def ct_field_Elem_Neg : Ct := tct (.one (.ints .u64 5)) (.ints .u64 5) fun x => field_Elem_Neg x
def cs_field_Elem_Neg : List (FuncId × Ct) := [(52, ct_field_Elem_Sub)]
def gs_field_Elem_Neg : List Gv := []
noncomputable def ls_field_Elem_Neg : List (Nat × Lf) := []
theorem r_field_Elem_Neg : ∀ x, run Tryd.prog (fun g => lkG g (cs_field_Elem_Neg)) (glAt gs_field_Elem_Neg 0) (gs_field_Elem_Neg.length + 0) (memAt gs_field_Elem_Neg 0 ++ (unc gs_field_Elem_Neg.length (Ag.mk ((.one (.ints .u64 5))) x)).2) (fun i => lkL i (ls_field_Elem_Neg)) 100 Tryd.f25 (unc gs_field_Elem_Neg.length (Ag.mk ((.one (.ints .u64 5))) x)).1 none (Pt.get ((.ints .u64 5))) = some (field_Elem_Neg x) := by
  intro x; kernel_rfl
theorem s_field_Elem_Neg {w0 : World}  (h52 : SoundAt Tryd.prog w0 52 ct_field_Elem_Sub) : SoundAt Tryd.prog w0 25 ct_field_Elem_Neg := by
  have hcs : ∀ x ∈ cs_field_Elem_Neg, SoundAt Tryd.prog w0 x.1 x.2 := by
    intro x hx
    simp only [cs_field_Elem_Neg, List.mem_cons, List.not_mem_nil, or_false] at hx
    rcases hx with rfl
    · exact h52
  exact sound_tct (fn_printed hcs (glob_nil _ _) Tryd.func25 (by kernel_rfl) (by kernel_rfl) (S := 0) (fun w _ => loopsOK_nil _) (fun _ => rfl) (r_field_Elem_Neg)) fun _ _ => rfl
theorem k_field_Elem_Neg {w0 : World}  : SoundAt Tryd.prog w0 25 ct_field_Elem_Neg :=
  s_field_Elem_Neg (k_field_Elem_Sub)

def ct_bits_Mul64 : Ct := tct (.cons (.int .u64) (.one (.int .u64))) (.tup (.cons (.int .u64) (.one (.int .u64)))) fun x => bits_Mul64 x.1 x.2
def cs_bits_Mul64 : List (FuncId × Ct) := []
def gs_bits_Mul64 : List Gv := []
noncomputable def ls_bits_Mul64 : List (Nat × Lf) := []
theorem r_bits_Mul64 : ∀ x, run Tryd.prog (fun g => lkG g (cs_bits_Mul64)) (glAt gs_bits_Mul64 0) (gs_bits_Mul64.length + 0) (memAt gs_bits_Mul64 0 ++ (unc gs_bits_Mul64.length (Ag.mk ((.cons (.int .u64) (.one (.int .u64)))) x)).2) (fun i => lkL i (ls_bits_Mul64)) 100 Tryd.f63 (unc gs_bits_Mul64.length (Ag.mk ((.cons (.int .u64) (.one (.int .u64)))) x)).1 none (Pt.get ((.tup (.cons (.int .u64) (.one (.int .u64)))))) = some (bits_Mul64 x.1 x.2) := by
  intro x; kernel_rfl
theorem s_bits_Mul64 {w0 : World}  : SoundAt Tryd.prog w0 63 ct_bits_Mul64 := by
  have hcs : ∀ x ∈ cs_bits_Mul64, SoundAt Tryd.prog w0 x.1 x.2 := by
    intro x hx
    simp [cs_bits_Mul64] at hx
  exact sound_tct (fn_printed hcs (glob_nil _ _) Tryd.func63 (by kernel_rfl) (by kernel_rfl) (S := 0) (fun w _ => loopsOK_nil _) (fun _ => rfl) (r_bits_Mul64)) fun _ _ => rfl
theorem k_bits_Mul64 {w0 : World}  : SoundAt Tryd.prog w0 63 ct_bits_Mul64 :=
  s_bits_Mul64

def ct_field_double_plus : Ct := fct (.cons (.agg (.cons (.int .u64) (.one (.int .u64)))) (.cons (.int .u64) (.one (.int .u64)))) (.agg (.cons (.int .u64) (.one (.int .u64)))) fun x => field_double_plus x.1 x.2.1 x.2.2
def cs_field_double_plus : List (FuncId × Ct) := [(63, ct_bits_Mul64), (64, ct_bits_Add64)]
def gs_field_double_plus : List Gv := []
noncomputable def ls_field_double_plus : List (Nat × Lf) := []
theorem r_field_double_plus : ∀ x, run Tryd.prog (fun g => lkG g (cs_field_double_plus)) (glAt gs_field_double_plus 0) (gs_field_double_plus.length + 0) (memAt gs_field_double_plus 0 ++ (unc gs_field_double_plus.length (Ag.mk ((.cons (.agg (.cons (.int .u64) (.one (.int .u64)))) (.cons (.int .u64) (.one (.int .u64))))) x)).2) (fun i => lkL i (ls_field_double_plus)) 100 Tryd.f81 (unc gs_field_double_plus.length (Ag.mk ((.cons (.agg (.cons (.int .u64) (.one (.int .u64)))) (.cons (.int .u64) (.one (.int .u64))))) x)).1 none (Pt.get ((.agg (.cons (.int .u64) (.one (.int .u64)))))) = field_double_plus x.1 x.2.1 x.2.2 := by
  intro x; kernel_rfl
theorem s_field_double_plus {w0 : World}  (h63 : SoundAt Tryd.prog w0 63 ct_bits_Mul64) (h64 : SoundAt Tryd.prog w0 64 ct_bits_Add64) : SoundAt Tryd.prog w0 81 ct_field_double_plus := by
  have hcs : ∀ x ∈ cs_field_double_plus, SoundAt Tryd.prog w0 x.1 x.2 := by
    intro x hx
    simp only [cs_field_double_plus, List.mem_cons, List.not_mem_nil, or_false] at hx
    rcases hx with rfl | rfl
    · exact h63
    · exact h64
  exact fn_printed hcs (glob_nil _ _) Tryd.func81 (by kernel_rfl) (by kernel_rfl) (S := 0) (fun w _ => loopsOK_nil _) (fun _ => rfl) (r_field_double_plus)
theorem k_field_double_plus {w0 : World}  : SoundAt Tryd.prog w0 81 ct_field_double_plus :=
  s_field_double_plus (k_bits_Mul64) (k_bits_Add64)

def ct_field_double_over : Ct := tct (.one (.agg (.cons (.int .u64) (.one (.int .u64))))) (.int .u64) fun x => field_double_over x
def cs_field_double_over : List (FuncId × Ct) := []
def gs_field_double_over : List Gv := []
noncomputable def ls_field_double_over : List (Nat × Lf) := []
theorem r_field_double_over : ∀ x, run Tryd.prog (fun g => lkG g (cs_field_double_over)) (glAt gs_field_double_over 0) (gs_field_double_over.length + 0) (memAt gs_field_double_over 0 ++ (unc gs_field_double_over.length (Ag.mk ((.one (.agg (.cons (.int .u64) (.one (.int .u64)))))) x)).2) (fun i => lkL i (ls_field_double_over)) 100 Tryd.f99 (unc gs_field_double_over.length (Ag.mk ((.one (.agg (.cons (.int .u64) (.one (.int .u64)))))) x)).1 none (Pt.get ((.int .u64))) = some (field_double_over x) := by
  intro x; kernel_rfl
theorem s_field_double_over {w0 : World}  : SoundAt Tryd.prog w0 99 ct_field_double_over := by
  have hcs : ∀ x ∈ cs_field_double_over, SoundAt Tryd.prog w0 x.1 x.2 := by
    intro x hx
    simp [cs_field_double_over] at hx
  exact sound_tct (fn_printed hcs (glob_nil _ _) Tryd.func99 (by kernel_rfl) (by kernel_rfl) (S := 0) (fun w _ => loopsOK_nil _) (fun _ => rfl) (r_field_double_over)) fun _ _ => rfl
theorem k_field_double_over {w0 : World}  : SoundAt Tryd.prog w0 99 ct_field_double_over :=
  s_field_double_over

def ct_field_carried : Ct := fct (.cons (.agg (.cons (.int .u64) (.one (.int .u64)))) (.cons (.agg (.cons (.int .u64) (.one (.int .u64)))) (.cons (.agg (.cons (.int .u64) (.one (.int .u64)))) (.cons (.agg (.cons (.int .u64) (.one (.int .u64)))) (.one (.agg (.cons (.int .u64) (.one (.int .u64))))))))) (.ints .u64 5) fun x => field_carried x.1 x.2.1 x.2.2.1 x.2.2.2.1 x.2.2.2.2
def cs_field_carried : List (FuncId × Ct) := [(81, ct_field_double_plus), (83, ct_field_closed), (99, ct_field_double_over)]
def gs_field_carried : List Gv := []
noncomputable def ls_field_carried : List (Nat × Lf) := []
theorem r_field_carried : ∀ x, run Tryd.prog (fun g => lkG g (cs_field_carried)) (glAt gs_field_carried 0) (gs_field_carried.length + 0) (memAt gs_field_carried 0 ++ (unc gs_field_carried.length (Ag.mk ((.cons (.agg (.cons (.int .u64) (.one (.int .u64)))) (.cons (.agg (.cons (.int .u64) (.one (.int .u64)))) (.cons (.agg (.cons (.int .u64) (.one (.int .u64)))) (.cons (.agg (.cons (.int .u64) (.one (.int .u64)))) (.one (.agg (.cons (.int .u64) (.one (.int .u64)))))))))) x)).2) (fun i => lkL i (ls_field_carried)) 100 Tryd.f82 (unc gs_field_carried.length (Ag.mk ((.cons (.agg (.cons (.int .u64) (.one (.int .u64)))) (.cons (.agg (.cons (.int .u64) (.one (.int .u64)))) (.cons (.agg (.cons (.int .u64) (.one (.int .u64)))) (.cons (.agg (.cons (.int .u64) (.one (.int .u64)))) (.one (.agg (.cons (.int .u64) (.one (.int .u64)))))))))) x)).1 none (Pt.get ((.ints .u64 5))) = field_carried x.1 x.2.1 x.2.2.1 x.2.2.2.1 x.2.2.2.2 := by
  intro x; kernel_rfl
theorem s_field_carried {w0 : World}  (h81 : SoundAt Tryd.prog w0 81 ct_field_double_plus) (h83 : SoundAt Tryd.prog w0 83 ct_field_closed) (h99 : SoundAt Tryd.prog w0 99 ct_field_double_over) : SoundAt Tryd.prog w0 82 ct_field_carried := by
  have hcs : ∀ x ∈ cs_field_carried, SoundAt Tryd.prog w0 x.1 x.2 := by
    intro x hx
    simp only [cs_field_carried, List.mem_cons, List.not_mem_nil, or_false] at hx
    rcases hx with rfl | rfl | rfl
    · exact h81
    · exact h83
    · exact h99
  exact fn_printed hcs (glob_nil _ _) Tryd.func82 (by kernel_rfl) (by kernel_rfl) (S := 0) (fun w _ => loopsOK_nil _) (fun _ => rfl) (r_field_carried)
theorem k_field_carried {w0 : World}  : SoundAt Tryd.prog w0 82 ct_field_carried :=
  s_field_carried (k_field_double_plus) (k_field_closed) (k_field_double_over)

def ct_field_Elem_Mul : Ct := fct (.cons (.ints .u64 5) (.one (.ints .u64 5))) (.ints .u64 5) fun x => field_Elem_Mul x.1 x.2
def cs_field_Elem_Mul : List (FuncId × Ct) := [(24, ct_field_Elem_Least), (80, ct_field_Elem_slim), (81, ct_field_double_plus), (82, ct_field_carried)]
def gs_field_Elem_Mul : List Gv := []
noncomputable def ls_field_Elem_Mul : List (Nat × Lf) := []
theorem r_field_Elem_Mul : ∀ x, run Tryd.prog (fun g => lkG g (cs_field_Elem_Mul)) (glAt gs_field_Elem_Mul 0) (gs_field_Elem_Mul.length + 0) (memAt gs_field_Elem_Mul 0 ++ (unc gs_field_Elem_Mul.length (Ag.mk ((.cons (.ints .u64 5) (.one (.ints .u64 5)))) x)).2) (fun i => lkL i (ls_field_Elem_Mul)) 100 Tryd.f49 (unc gs_field_Elem_Mul.length (Ag.mk ((.cons (.ints .u64 5) (.one (.ints .u64 5)))) x)).1 none (Pt.get ((.ints .u64 5))) = field_Elem_Mul x.1 x.2 := by
  intro x; kernel_rfl
theorem s_field_Elem_Mul {w0 : World}  (h24 : SoundAt Tryd.prog w0 24 ct_field_Elem_Least) (h80 : SoundAt Tryd.prog w0 80 ct_field_Elem_slim) (h81 : SoundAt Tryd.prog w0 81 ct_field_double_plus) (h82 : SoundAt Tryd.prog w0 82 ct_field_carried) : SoundAt Tryd.prog w0 49 ct_field_Elem_Mul := by
  have hcs : ∀ x ∈ cs_field_Elem_Mul, SoundAt Tryd.prog w0 x.1 x.2 := by
    intro x hx
    simp only [cs_field_Elem_Mul, List.mem_cons, List.not_mem_nil, or_false] at hx
    rcases hx with rfl | rfl | rfl | rfl
    · exact h24
    · exact h80
    · exact h81
    · exact h82
  exact fn_printed hcs (glob_nil _ _) Tryd.func49 (by kernel_rfl) (by kernel_rfl) (S := 0) (fun w _ => loopsOK_nil _) (fun _ => rfl) (r_field_Elem_Mul)
theorem k_field_Elem_Mul {w0 : World}  : SoundAt Tryd.prog w0 49 ct_field_Elem_Mul :=
  s_field_Elem_Mul (k_field_Elem_Least) (k_field_Elem_slim) (k_field_double_plus) (k_field_carried)

def ct_field_Elem_Square : Ct := fct (.one (.ints .u64 5)) (.ints .u64 5) fun x => field_Elem_Square x
def cs_field_Elem_Square : List (FuncId × Ct) := [(24, ct_field_Elem_Least), (80, ct_field_Elem_slim), (81, ct_field_double_plus), (82, ct_field_carried)]
def gs_field_Elem_Square : List Gv := []
noncomputable def ls_field_Elem_Square : List (Nat × Lf) := []
theorem r_field_Elem_Square : ∀ x, run Tryd.prog (fun g => lkG g (cs_field_Elem_Square)) (glAt gs_field_Elem_Square 0) (gs_field_Elem_Square.length + 0) (memAt gs_field_Elem_Square 0 ++ (unc gs_field_Elem_Square.length (Ag.mk ((.one (.ints .u64 5))) x)).2) (fun i => lkL i (ls_field_Elem_Square)) 100 Tryd.f50 (unc gs_field_Elem_Square.length (Ag.mk ((.one (.ints .u64 5))) x)).1 none (Pt.get ((.ints .u64 5))) = field_Elem_Square x := by
  intro x; kernel_rfl
theorem s_field_Elem_Square {w0 : World}  (h24 : SoundAt Tryd.prog w0 24 ct_field_Elem_Least) (h80 : SoundAt Tryd.prog w0 80 ct_field_Elem_slim) (h81 : SoundAt Tryd.prog w0 81 ct_field_double_plus) (h82 : SoundAt Tryd.prog w0 82 ct_field_carried) : SoundAt Tryd.prog w0 50 ct_field_Elem_Square := by
  have hcs : ∀ x ∈ cs_field_Elem_Square, SoundAt Tryd.prog w0 x.1 x.2 := by
    intro x hx
    simp only [cs_field_Elem_Square, List.mem_cons, List.not_mem_nil, or_false] at hx
    rcases hx with rfl | rfl | rfl | rfl
    · exact h24
    · exact h80
    · exact h81
    · exact h82
  exact fn_printed hcs (glob_nil _ _) Tryd.func50 (by kernel_rfl) (by kernel_rfl) (S := 0) (fun w _ => loopsOK_nil _) (fun _ => rfl) (r_field_Elem_Square)
theorem k_field_Elem_Square {w0 : World}  : SoundAt Tryd.prog w0 50 ct_field_Elem_Square :=
  s_field_Elem_Square (k_field_Elem_Least) (k_field_Elem_slim) (k_field_double_plus) (k_field_carried)

def ct_field_load : Ct := tct (.one (.ints .u8 32)) (.ints .u64 5) fun x => field_load x
def cs_field_load : List (FuncId × Ct) := []
def gs_field_load : List Gv := []
noncomputable def ls_field_load : List (Nat × Lf) := []
theorem r_field_load : ∀ x, run Tryd.prog (fun g => lkG g (cs_field_load)) (glAt gs_field_load 0) (gs_field_load.length + 0) (memAt gs_field_load 0 ++ (unc gs_field_load.length (Ag.mk ((.one (.ints .u8 32))) x)).2) (fun i => lkL i (ls_field_load)) 100 Tryd.f72 (unc gs_field_load.length (Ag.mk ((.one (.ints .u8 32))) x)).1 none (Pt.get ((.ints .u64 5))) = some (field_load x) := by
  intro x; kernel_rfl
theorem s_field_load {w0 : World}  : SoundAt Tryd.prog w0 72 ct_field_load := by
  have hcs : ∀ x ∈ cs_field_load, SoundAt Tryd.prog w0 x.1 x.2 := by
    intro x hx
    simp [cs_field_load] at hx
  exact sound_tct (fn_printed hcs (glob_nil _ _) Tryd.func72 (by kernel_rfl) (by kernel_rfl) (S := 0) (fun w _ => loopsOK_nil _) (fun _ => rfl) (r_field_load)) fun _ _ => rfl
theorem k_field_load {w0 : World}  : SoundAt Tryd.prog w0 72 ct_field_load :=
  s_field_load

def ct_field_Decode : Ct := tct (.one (.ints .u8 32)) (.tup (.cons (.ints .u64 5) (.one (.int .i64)))) fun x => field_Decode x
def cs_field_Decode : List (FuncId × Ct) := [(24, ct_field_Elem_Least), (72, ct_field_load)]
def gs_field_Decode : List Gv := []
noncomputable def ls_field_Decode : List (Nat × Lf) := []
theorem r_field_Decode : ∀ x, run Tryd.prog (fun g => lkG g (cs_field_Decode)) (glAt gs_field_Decode 0) (gs_field_Decode.length + 0) (memAt gs_field_Decode 0 ++ (unc gs_field_Decode.length (Ag.mk ((.one (.ints .u8 32))) x)).2) (fun i => lkL i (ls_field_Decode)) 100 Tryd.f69 (unc gs_field_Decode.length (Ag.mk ((.one (.ints .u8 32))) x)).1 none (Pt.get ((.tup (.cons (.ints .u64 5) (.one (.int .i64)))))) = field_Decode_o x := by
  intro x; kernel_rfl
theorem s_field_Decode {w0 : World}  (h24 : SoundAt Tryd.prog w0 24 ct_field_Elem_Least) (h72 : SoundAt Tryd.prog w0 72 ct_field_load) : SoundAt Tryd.prog w0 69 ct_field_Decode := by
  have hcs : ∀ x ∈ cs_field_Decode, SoundAt Tryd.prog w0 x.1 x.2 := by
    intro x hx
    simp only [cs_field_Decode, List.mem_cons, List.not_mem_nil, or_false] at hx
    rcases hx with rfl | rfl
    · exact h24
    · exact h72
  exact sound_tct (fn_printed hcs (glob_nil _ _) Tryd.func69 (by kernel_rfl) (by kernel_rfl) (S := 0) (fun w _ => loopsOK_nil _) (fun _ => rfl) (r_field_Decode)) fun _ _ => field_Decode_tot _
theorem k_field_Decode {w0 : World}  : SoundAt Tryd.prog w0 69 ct_field_Decode :=
  s_field_Decode (k_field_Elem_Least) (k_field_load)

def ct_field_Reduce : Ct := tct (.one (.ints .u8 32)) (.ints .u64 5) fun x => field_Reduce x
def cs_field_Reduce : List (FuncId × Ct) := [(24, ct_field_Elem_Least), (72, ct_field_load)]
def gs_field_Reduce : List Gv := []
noncomputable def ls_field_Reduce : List (Nat × Lf) := []
theorem r_field_Reduce : ∀ x, run Tryd.prog (fun g => lkG g (cs_field_Reduce)) (glAt gs_field_Reduce 0) (gs_field_Reduce.length + 0) (memAt gs_field_Reduce 0 ++ (unc gs_field_Reduce.length (Ag.mk ((.one (.ints .u8 32))) x)).2) (fun i => lkL i (ls_field_Reduce)) 100 Tryd.f34 (unc gs_field_Reduce.length (Ag.mk ((.one (.ints .u8 32))) x)).1 none (Pt.get ((.ints .u64 5))) = some (field_Reduce x) := by
  intro x; kernel_rfl
theorem s_field_Reduce {w0 : World}  (h24 : SoundAt Tryd.prog w0 24 ct_field_Elem_Least) (h72 : SoundAt Tryd.prog w0 72 ct_field_load) : SoundAt Tryd.prog w0 34 ct_field_Reduce := by
  have hcs : ∀ x ∈ cs_field_Reduce, SoundAt Tryd.prog w0 x.1 x.2 := by
    intro x hx
    simp only [cs_field_Reduce, List.mem_cons, List.not_mem_nil, or_false] at hx
    rcases hx with rfl | rfl
    · exact h24
    · exact h72
  exact sound_tct (fn_printed hcs (glob_nil _ _) Tryd.func34 (by kernel_rfl) (by kernel_rfl) (S := 0) (fun w _ => loopsOK_nil _) (fun _ => rfl) (r_field_Reduce)) fun _ _ => rfl
theorem k_field_Reduce {w0 : World}  : SoundAt Tryd.prog w0 34 ct_field_Reduce :=
  s_field_Reduce (k_field_Elem_Least) (k_field_load)

def ct_field_Elem_Encode : Ct := tct (.one (.ints .u64 5)) (.ints .u8 32) fun x => field_Elem_Encode x
def cs_field_Elem_Encode : List (FuncId × Ct) := [(24, ct_field_Elem_Least)]
def gs_field_Elem_Encode : List Gv := []
noncomputable def ls_field_Elem_Encode : List (Nat × Lf) := []
theorem r_field_Elem_Encode : ∀ x, run Tryd.prog (fun g => lkG g (cs_field_Elem_Encode)) (glAt gs_field_Elem_Encode 0) (gs_field_Elem_Encode.length + 0) (memAt gs_field_Elem_Encode 0 ++ (unc gs_field_Elem_Encode.length (Ag.mk ((.one (.ints .u64 5))) x)).2) (fun i => lkL i (ls_field_Elem_Encode)) 100 Tryd.f61 (unc gs_field_Elem_Encode.length (Ag.mk ((.one (.ints .u64 5))) x)).1 none (Pt.get ((.ints .u8 32))) = some (field_Elem_Encode x) := by
  intro x; kernel_rfl
theorem s_field_Elem_Encode {w0 : World}  (h24 : SoundAt Tryd.prog w0 24 ct_field_Elem_Least) : SoundAt Tryd.prog w0 61 ct_field_Elem_Encode := by
  have hcs : ∀ x ∈ cs_field_Elem_Encode, SoundAt Tryd.prog w0 x.1 x.2 := by
    intro x hx
    simp only [cs_field_Elem_Encode, List.mem_cons, List.not_mem_nil, or_false] at hx
    rcases hx with rfl
    · exact h24
  exact sound_tct (fn_printed hcs (glob_nil _ _) Tryd.func61 (by kernel_rfl) (by kernel_rfl) (S := 0) (fun w _ => loopsOK_nil _) (fun _ => rfl) (r_field_Elem_Encode)) fun _ _ => rfl
theorem k_field_Elem_Encode {w0 : World}  : SoundAt Tryd.prog w0 61 ct_field_Elem_Encode :=
  s_field_Elem_Encode (k_field_Elem_Least)

def ct_field_Elem_squares (N : Nat) : Ct := fct (.cons (.ints .u64 5) (.one (.int .i64))) (.ints .u64 5) fun x => field_Elem_squares N x.1 x.2
def cs_field_Elem_squares (N : Nat) : List (FuncId × Ct) := [(50, ct_field_Elem_Square)]
def gs_field_Elem_squares : List Gv := []
def field_Elem_squares_l0_H : Fm ((Unit × Unit × Int × Int)) ((List Int × Unit)) := ⟨(.cons 2 (.lit (.ptr 0 [] 28)) (.cons 4 (.lit (.ptr 1 [] 28)) (.cons 5 (.int .i64) (.one 6 (.int .i64))))), (.cons 0 (.ints .u64 5) (.one 1 (.lit (.ints .u64 5 [0, 0, 0, 0, 0]))))⟩
def field_Elem_squares_l0_O : Fm ((Unit × Unit)) ((List Int × Unit)) := ⟨(.cons 2 (.lit (.ptr 0 [] 28)) (.one 4 (.lit (.ptr 1 [] 28)))), (.cons 0 (.ints .u64 5) (.one 1 (.lit (.ints .u64 5 [0, 0, 0, 0, 0]))))⟩
def field_Elem_squares_l0_T : Fm (Unit) (Unit) := ⟨.nil, .nil⟩
noncomputable def ls_field_Elem_squares (N : Nat) : List (Nat × Lf) := [(0, loopCt field_Elem_squares_l0_H field_Elem_squares_l0_O field_Elem_squares_l0_T 4 (field_Elem_squares_l0 N) N)]
theorem field_Elem_squares_l0_step (N : Nat) : ∀ v, exec Tryd.prog (cxOf Tryd.f86 (cs_field_Elem_squares N) gs_field_Elem_squares 0) (fun i => lkL i (ls_field_Elem_squares N)) 100 none (loopBody Tryd.f86 0) (field_Elem_squares_l0_H.st 4 v) (rdEnd field_Elem_squares_l0_H field_Elem_squares_l0_O field_Elem_squares_l0_T 4 0) = field_Elem_squares_l0 N v := by
  intro v; kernel_rfl
theorem r_field_Elem_squares (N : Nat) : ∀ x, run Tryd.prog (fun g => lkG g (cs_field_Elem_squares N)) (glAt gs_field_Elem_squares 0) (gs_field_Elem_squares.length + 0) (memAt gs_field_Elem_squares 0 ++ (unc gs_field_Elem_squares.length (Ag.mk ((.cons (.ints .u64 5) (.one (.int .i64)))) x)).2) (fun i => lkL i (ls_field_Elem_squares N)) 100 Tryd.f86 (unc gs_field_Elem_squares.length (Ag.mk ((.cons (.ints .u64 5) (.one (.int .i64)))) x)).1 none (Pt.get ((.ints .u64 5))) = field_Elem_squares N x.1 x.2 := by
  intro x; kernel_rfl
theorem s_field_Elem_squares {w0 : World} (N : Nat)  (h50 : SoundAt Tryd.prog w0 50 ct_field_Elem_Square) : SoundAt Tryd.prog w0 86 (ct_field_Elem_squares N) := by
  have hcs : ∀ x ∈ cs_field_Elem_squares N, SoundAt Tryd.prog w0 x.1 x.2 := by
    intro x hx
    simp only [cs_field_Elem_squares, List.mem_cons, List.not_mem_nil, or_false] at hx
    rcases hx with rfl
    · exact h50
  have L0 : ∀ w, RowKit.Below w0.heap.size w0 w → LoopOK Tryd.prog (cxOf Tryd.f86 (cs_field_Elem_squares N) gs_field_Elem_squares 0) w 0 (.loop (loopBody Tryd.f86 0)) (loopCt field_Elem_squares_l0_H field_Elem_squares_l0_O field_Elem_squares_l0_T 4 (field_Elem_squares_l0 N) N) :=
    loop_printed hcs (ls := ls_field_Elem_squares N) (n := 100) (by kernel_rfl) (field_Elem_squares_l0_step N) N fun w hw => loopsOK_list (by
      intro x hx
      simp only [ls_field_Elem_squares, List.mem_cons, List.not_mem_nil, or_false] at hx
      rcases hx with rfl
      · exact .inl (by kernel_rfl)
    )
  exact fn_printed hcs (glob_nil _ _) Tryd.func86 (by kernel_rfl) (by kernel_rfl) (S := 0) (fun w hw => loopsOK_list (by
    intro x hx
    simp only [ls_field_Elem_squares, List.mem_cons, List.not_mem_nil, or_false] at hx
    rcases hx with rfl
    · exact .inr ⟨_, by kernel_rfl, L0 w hw⟩
  )) (fun _ => rfl) (r_field_Elem_squares N)
theorem k_field_Elem_squares {w0 : World} (N : Nat)  : SoundAt Tryd.prog w0 86 (ct_field_Elem_squares N) :=
  s_field_Elem_squares N (k_field_Elem_Square)

def ct_field_Elem_ones (N : Nat) : Ct := fct (.one (.ints .u64 5)) (.tup (.cons (.ints .u64 5) (.one (.ints .u64 5)))) fun x => field_Elem_ones N x
def cs_field_Elem_ones (N : Nat) : List (FuncId × Ct) := [(49, ct_field_Elem_Mul), (50, ct_field_Elem_Square), (86, (ct_field_Elem_squares N))]
def gs_field_Elem_ones : List Gv := []
noncomputable def ls_field_Elem_ones (N : Nat) : List (Nat × Lf) := []
theorem r_field_Elem_ones (N : Nat) : ∀ x, run Tryd.prog (fun g => lkG g (cs_field_Elem_ones N)) (glAt gs_field_Elem_ones 0) (gs_field_Elem_ones.length + 0) (memAt gs_field_Elem_ones 0 ++ (unc gs_field_Elem_ones.length (Ag.mk ((.one (.ints .u64 5))) x)).2) (fun i => lkL i (ls_field_Elem_ones N)) 100 Tryd.f85 (unc gs_field_Elem_ones.length (Ag.mk ((.one (.ints .u64 5))) x)).1 none (Pt.get ((.tup (.cons (.ints .u64 5) (.one (.ints .u64 5)))))) = field_Elem_ones N x := by
  intro x; kernel_rfl
theorem s_field_Elem_ones {w0 : World} (N : Nat)  (h49 : SoundAt Tryd.prog w0 49 ct_field_Elem_Mul) (h50 : SoundAt Tryd.prog w0 50 ct_field_Elem_Square) (h86 : SoundAt Tryd.prog w0 86 (ct_field_Elem_squares N)) : SoundAt Tryd.prog w0 85 (ct_field_Elem_ones N) := by
  have hcs : ∀ x ∈ cs_field_Elem_ones N, SoundAt Tryd.prog w0 x.1 x.2 := by
    intro x hx
    simp only [cs_field_Elem_ones, List.mem_cons, List.not_mem_nil, or_false] at hx
    rcases hx with rfl | rfl | rfl
    · exact h49
    · exact h50
    · exact h86
  exact fn_printed hcs (glob_nil _ _) Tryd.func85 (by kernel_rfl) (by kernel_rfl) (S := 0) (fun w _ => loopsOK_nil _) (fun _ => rfl) (r_field_Elem_ones N)
theorem k_field_Elem_ones {w0 : World} (N : Nat)  : SoundAt Tryd.prog w0 85 (ct_field_Elem_ones N) :=
  s_field_Elem_ones N (k_field_Elem_Mul) (k_field_Elem_Square) (k_field_Elem_squares N)

def ct_field_Elem_Invert (N : Nat) : Ct := fct (.one (.ints .u64 5)) (.ints .u64 5) fun x => field_Elem_Invert N x
def cs_field_Elem_Invert (N : Nat) : List (FuncId × Ct) := [(49, ct_field_Elem_Mul), (85, (ct_field_Elem_ones N)), (86, (ct_field_Elem_squares N))]
def gs_field_Elem_Invert : List Gv := []
noncomputable def ls_field_Elem_Invert (N : Nat) : List (Nat × Lf) := []
theorem r_field_Elem_Invert (N : Nat) : ∀ x, run Tryd.prog (fun g => lkG g (cs_field_Elem_Invert N)) (glAt gs_field_Elem_Invert 0) (gs_field_Elem_Invert.length + 0) (memAt gs_field_Elem_Invert 0 ++ (unc gs_field_Elem_Invert.length (Ag.mk ((.one (.ints .u64 5))) x)).2) (fun i => lkL i (ls_field_Elem_Invert N)) 100 Tryd.f57 (unc gs_field_Elem_Invert.length (Ag.mk ((.one (.ints .u64 5))) x)).1 none (Pt.get ((.ints .u64 5))) = field_Elem_Invert N x := by
  intro x; kernel_rfl
theorem s_field_Elem_Invert {w0 : World} (N : Nat)  (h49 : SoundAt Tryd.prog w0 49 ct_field_Elem_Mul) (h85 : SoundAt Tryd.prog w0 85 (ct_field_Elem_ones N)) (h86 : SoundAt Tryd.prog w0 86 (ct_field_Elem_squares N)) : SoundAt Tryd.prog w0 57 (ct_field_Elem_Invert N) := by
  have hcs : ∀ x ∈ cs_field_Elem_Invert N, SoundAt Tryd.prog w0 x.1 x.2 := by
    intro x hx
    simp only [cs_field_Elem_Invert, List.mem_cons, List.not_mem_nil, or_false] at hx
    rcases hx with rfl | rfl | rfl
    · exact h49
    · exact h85
    · exact h86
  exact fn_printed hcs (glob_nil _ _) Tryd.func57 (by kernel_rfl) (by kernel_rfl) (S := 0) (fun w _ => loopsOK_nil _) (fun _ => rfl) (r_field_Elem_Invert N)
theorem k_field_Elem_Invert {w0 : World} (N : Nat)  : SoundAt Tryd.prog w0 57 (ct_field_Elem_Invert N) :=
  s_field_Elem_Invert N (k_field_Elem_Mul) (k_field_Elem_ones N) (k_field_Elem_squares N)

def ct_field_Elem_root (N : Nat) : Ct := fct (.one (.ints .u64 5)) (.ints .u64 5) fun x => field_Elem_root N x
def cs_field_Elem_root (N : Nat) : List (FuncId × Ct) := [(49, ct_field_Elem_Mul), (85, (ct_field_Elem_ones N)), (86, (ct_field_Elem_squares N))]
def gs_field_Elem_root : List Gv := []
noncomputable def ls_field_Elem_root (N : Nat) : List (Nat × Lf) := []
theorem r_field_Elem_root (N : Nat) : ∀ x, run Tryd.prog (fun g => lkG g (cs_field_Elem_root N)) (glAt gs_field_Elem_root 0) (gs_field_Elem_root.length + 0) (memAt gs_field_Elem_root 0 ++ (unc gs_field_Elem_root.length (Ag.mk ((.one (.ints .u64 5))) x)).2) (fun i => lkL i (ls_field_Elem_root N)) 100 Tryd.f84 (unc gs_field_Elem_root.length (Ag.mk ((.one (.ints .u64 5))) x)).1 none (Pt.get ((.ints .u64 5))) = field_Elem_root N x := by
  intro x; kernel_rfl
theorem s_field_Elem_root {w0 : World} (N : Nat)  (h49 : SoundAt Tryd.prog w0 49 ct_field_Elem_Mul) (h85 : SoundAt Tryd.prog w0 85 (ct_field_Elem_ones N)) (h86 : SoundAt Tryd.prog w0 86 (ct_field_Elem_squares N)) : SoundAt Tryd.prog w0 84 (ct_field_Elem_root N) := by
  have hcs : ∀ x ∈ cs_field_Elem_root N, SoundAt Tryd.prog w0 x.1 x.2 := by
    intro x hx
    simp only [cs_field_Elem_root, List.mem_cons, List.not_mem_nil, or_false] at hx
    rcases hx with rfl | rfl | rfl
    · exact h49
    · exact h85
    · exact h86
  exact fn_printed hcs (glob_nil _ _) Tryd.func84 (by kernel_rfl) (by kernel_rfl) (S := 0) (fun w _ => loopsOK_nil _) (fun _ => rfl) (r_field_Elem_root N)
theorem k_field_Elem_root {w0 : World} (N : Nat)  : SoundAt Tryd.prog w0 84 (ct_field_Elem_root N) :=
  s_field_Elem_root N (k_field_Elem_Mul) (k_field_Elem_ones N) (k_field_Elem_squares N)

def ct_field_Elem_One : Ct := tct (.one (.ints .u64 5)) (.ints .u64 5) fun x => field_Elem_One x
def cs_field_Elem_One : List (FuncId × Ct) := []
def gs_field_Elem_One : List Gv := []
noncomputable def ls_field_Elem_One : List (Nat × Lf) := []
theorem r_field_Elem_One : ∀ x, run Tryd.prog (fun g => lkG g (cs_field_Elem_One)) (glAt gs_field_Elem_One 0) (gs_field_Elem_One.length + 0) (memAt gs_field_Elem_One 0 ++ (unc gs_field_Elem_One.length (Ag.mk ((.one (.ints .u64 5))) x)).2) (fun i => lkL i (ls_field_Elem_One)) 100 Tryd.f47 (unc gs_field_Elem_One.length (Ag.mk ((.one (.ints .u64 5))) x)).1 none (Pt.get ((.ints .u64 5))) = some (field_Elem_One x) := by
  intro x; kernel_rfl
theorem s_field_Elem_One {w0 : World}  : SoundAt Tryd.prog w0 47 ct_field_Elem_One := by
  have hcs : ∀ x ∈ cs_field_Elem_One, SoundAt Tryd.prog w0 x.1 x.2 := by
    intro x hx
    simp [cs_field_Elem_One] at hx
  exact sound_tct (fn_printed hcs (glob_nil _ _) Tryd.func47 (by kernel_rfl) (by kernel_rfl) (S := 0) (fun w _ => loopsOK_nil _) (fun _ => rfl) (r_field_Elem_One)) fun _ _ => rfl
theorem k_field_Elem_One {w0 : World}  : SoundAt Tryd.prog w0 47 ct_field_Elem_One :=
  s_field_Elem_One

def ct_field_Elem_IsZero : Ct := tct (.one (.ints .u64 5)) .bool fun x => field_Elem_IsZero x
def cs_field_Elem_IsZero : List (FuncId × Ct) := [(24, ct_field_Elem_Least)]
def gs_field_Elem_IsZero : List Gv := []
noncomputable def ls_field_Elem_IsZero : List (Nat × Lf) := []
theorem r_field_Elem_IsZero : ∀ x, run Tryd.prog (fun g => lkG g (cs_field_Elem_IsZero)) (glAt gs_field_Elem_IsZero 0) (gs_field_Elem_IsZero.length + 0) (memAt gs_field_Elem_IsZero 0 ++ (unc gs_field_Elem_IsZero.length (Ag.mk ((.one (.ints .u64 5))) x)).2) (fun i => lkL i (ls_field_Elem_IsZero)) 100 Tryd.f70 (unc gs_field_Elem_IsZero.length (Ag.mk ((.one (.ints .u64 5))) x)).1 none (Pt.get (.bool)) = some (field_Elem_IsZero x) := by
  intro x; kernel_rfl
theorem s_field_Elem_IsZero {w0 : World}  (h24 : SoundAt Tryd.prog w0 24 ct_field_Elem_Least) : SoundAt Tryd.prog w0 70 ct_field_Elem_IsZero := by
  have hcs : ∀ x ∈ cs_field_Elem_IsZero, SoundAt Tryd.prog w0 x.1 x.2 := by
    intro x hx
    simp only [cs_field_Elem_IsZero, List.mem_cons, List.not_mem_nil, or_false] at hx
    rcases hx with rfl
    · exact h24
  exact sound_tct (fn_printed hcs (glob_nil _ _) Tryd.func70 (by kernel_rfl) (by kernel_rfl) (S := 0) (fun w _ => loopsOK_nil _) (fun _ => rfl) (r_field_Elem_IsZero)) fun _ _ => rfl
theorem k_field_Elem_IsZero {w0 : World}  : SoundAt Tryd.prog w0 70 ct_field_Elem_IsZero :=
  s_field_Elem_IsZero (k_field_Elem_Least)

def ct_field_Elem_Negative : Ct := tct (.one (.ints .u64 5)) .bool fun x => field_Elem_Negative x
def cs_field_Elem_Negative : List (FuncId × Ct) := [(24, ct_field_Elem_Least)]
def gs_field_Elem_Negative : List Gv := []
noncomputable def ls_field_Elem_Negative : List (Nat × Lf) := []
theorem r_field_Elem_Negative : ∀ x, run Tryd.prog (fun g => lkG g (cs_field_Elem_Negative)) (glAt gs_field_Elem_Negative 0) (gs_field_Elem_Negative.length + 0) (memAt gs_field_Elem_Negative 0 ++ (unc gs_field_Elem_Negative.length (Ag.mk ((.one (.ints .u64 5))) x)).2) (fun i => lkL i (ls_field_Elem_Negative)) 100 Tryd.f60 (unc gs_field_Elem_Negative.length (Ag.mk ((.one (.ints .u64 5))) x)).1 none (Pt.get (.bool)) = some (field_Elem_Negative x) := by
  intro x; kernel_rfl
theorem s_field_Elem_Negative {w0 : World}  (h24 : SoundAt Tryd.prog w0 24 ct_field_Elem_Least) : SoundAt Tryd.prog w0 60 ct_field_Elem_Negative := by
  have hcs : ∀ x ∈ cs_field_Elem_Negative, SoundAt Tryd.prog w0 x.1 x.2 := by
    intro x hx
    simp only [cs_field_Elem_Negative, List.mem_cons, List.not_mem_nil, or_false] at hx
    rcases hx with rfl
    · exact h24
  exact sound_tct (fn_printed hcs (glob_nil _ _) Tryd.func60 (by kernel_rfl) (by kernel_rfl) (S := 0) (fun w _ => loopsOK_nil _) (fun _ => rfl) (r_field_Elem_Negative)) fun _ _ => rfl
theorem k_field_Elem_Negative {w0 : World}  : SoundAt Tryd.prog w0 60 ct_field_Elem_Negative :=
  s_field_Elem_Negative (k_field_Elem_Least)

def ct_field_Select : Ct := tct (.cons (.int .i64) (.cons (.ints .u64 5) (.one (.ints .u64 5)))) (.ints .u64 5) fun x => field_Select x.1 x.2.1 x.2.2
def cs_field_Select : List (FuncId × Ct) := [(24, ct_field_Elem_Least)]
def gs_field_Select : List Gv := []
noncomputable def ls_field_Select : List (Nat × Lf) := []
theorem r_field_Select : ∀ x, run Tryd.prog (fun g => lkG g (cs_field_Select)) (glAt gs_field_Select 0) (gs_field_Select.length + 0) (memAt gs_field_Select 0 ++ (unc gs_field_Select.length (Ag.mk ((.cons (.int .i64) (.cons (.ints .u64 5) (.one (.ints .u64 5))))) x)).2) (fun i => lkL i (ls_field_Select)) 100 Tryd.f54 (unc gs_field_Select.length (Ag.mk ((.cons (.int .i64) (.cons (.ints .u64 5) (.one (.ints .u64 5))))) x)).1 none (Pt.get ((.ints .u64 5))) = some (field_Select x.1 x.2.1 x.2.2) := by
  intro x; kernel_rfl
theorem s_field_Select {w0 : World}  (h24 : SoundAt Tryd.prog w0 24 ct_field_Elem_Least) : SoundAt Tryd.prog w0 54 ct_field_Select := by
  have hcs : ∀ x ∈ cs_field_Select, SoundAt Tryd.prog w0 x.1 x.2 := by
    intro x hx
    simp only [cs_field_Select, List.mem_cons, List.not_mem_nil, or_false] at hx
    rcases hx with rfl
    · exact h24
  exact sound_tct (fn_printed hcs (glob_nil _ _) Tryd.func54 (by kernel_rfl) (by kernel_rfl) (S := 0) (fun w _ => loopsOK_nil _) (fun _ => rfl) (r_field_Select)) fun _ _ => rfl
theorem k_field_Select {w0 : World}  : SoundAt Tryd.prog w0 54 ct_field_Select :=
  s_field_Select (k_field_Elem_Least)

def ct_field_Elem_Abs : Ct := tct (.one (.ints .u64 5)) (.ints .u64 5) fun x => field_Elem_Abs x
def cs_field_Elem_Abs : List (FuncId × Ct) := [(24, ct_field_Elem_Least), (25, ct_field_Elem_Neg), (54, ct_field_Select)]
def gs_field_Elem_Abs : List Gv := []
noncomputable def ls_field_Elem_Abs : List (Nat × Lf) := []
theorem r_field_Elem_Abs : ∀ x, run Tryd.prog (fun g => lkG g (cs_field_Elem_Abs)) (glAt gs_field_Elem_Abs 0) (gs_field_Elem_Abs.length + 0) (memAt gs_field_Elem_Abs 0 ++ (unc gs_field_Elem_Abs.length (Ag.mk ((.one (.ints .u64 5))) x)).2) (fun i => lkL i (ls_field_Elem_Abs)) 100 Tryd.f56 (unc gs_field_Elem_Abs.length (Ag.mk ((.one (.ints .u64 5))) x)).1 none (Pt.get ((.ints .u64 5))) = some (field_Elem_Abs x) := by
  intro x; kernel_rfl
theorem s_field_Elem_Abs {w0 : World}  (h24 : SoundAt Tryd.prog w0 24 ct_field_Elem_Least) (h25 : SoundAt Tryd.prog w0 25 ct_field_Elem_Neg) (h54 : SoundAt Tryd.prog w0 54 ct_field_Select) : SoundAt Tryd.prog w0 56 ct_field_Elem_Abs := by
  have hcs : ∀ x ∈ cs_field_Elem_Abs, SoundAt Tryd.prog w0 x.1 x.2 := by
    intro x hx
    simp only [cs_field_Elem_Abs, List.mem_cons, List.not_mem_nil, or_false] at hx
    rcases hx with rfl | rfl | rfl
    · exact h24
    · exact h25
    · exact h54
  exact sound_tct (fn_printed hcs (glob_nil _ _) Tryd.func56 (by kernel_rfl) (by kernel_rfl) (S := 0) (fun w _ => loopsOK_nil _) (fun _ => rfl) (r_field_Elem_Abs)) fun _ _ => rfl
theorem k_field_Elem_Abs {w0 : World}  : SoundAt Tryd.prog w0 56 ct_field_Elem_Abs :=
  s_field_Elem_Abs (k_field_Elem_Least) (k_field_Elem_Neg) (k_field_Select)

def ct_field_Const : Ct := fct (.one (.int .i64)) (.ints .u64 5) fun x => field_Const x
def cs_field_Const : List (FuncId × Ct) := []
def gs_field_Const : List Gv := [⟨4, 106, (.rows 7 fun i => .ints .u64 5 (field_tab i))⟩]
noncomputable def ls_field_Const : List (Nat × Lf) := []
theorem r_field_Const : ∀ x, run Tryd.prog (fun g => lkG g (cs_field_Const)) (glAt gs_field_Const 0) (gs_field_Const.length + 0) (memAt gs_field_Const 0 ++ (unc gs_field_Const.length (Ag.mk ((.one (.int .i64))) x)).2) (fun i => lkL i (ls_field_Const)) 100 Tryd.f48 (unc gs_field_Const.length (Ag.mk ((.one (.int .i64))) x)).1 none (Pt.get ((.ints .u64 5))) = field_Const x := by
  intro x; kernel_rfl
theorem s_field_Const {w0 : World}  (hg : GlobOK Tryd.prog w0 gs_field_Const) : SoundAt Tryd.prog w0 48 ct_field_Const := by
  have hcs : ∀ x ∈ cs_field_Const, SoundAt Tryd.prog w0 x.1 x.2 := by
    intro x hx
    simp [cs_field_Const] at hx
  exact fn_printed hcs hg Tryd.func48 (by kernel_rfl) (by kernel_rfl) (S := 0) (fun w _ => loopsOK_nil _) (fun _ => rfl) (r_field_Const)
theorem k_field_Const {w0 : World}  (hg_field_Const : GlobOK Tryd.prog w0 gs_field_Const) : SoundAt Tryd.prog w0 48 ct_field_Const :=
  s_field_Const hg_field_Const

def ct_field_SqrtRatio (N : Nat) : Ct := fct (.cons (.ints .u64 5) (.one (.ints .u64 5))) (.tup (.cons (.ints .u64 5) (.one .bool))) fun x => field_SqrtRatio N x.1 x.2
def cs_field_SqrtRatio (N : Nat) : List (FuncId × Ct) := [(24, ct_field_Elem_Least), (25, ct_field_Elem_Neg), (49, ct_field_Elem_Mul), (50, ct_field_Elem_Square), (56, ct_field_Elem_Abs), (84, (ct_field_Elem_root N))]
def gs_field_SqrtRatio : List Gv := [⟨4, 106, (.rows 7 fun i => .ints .u64 5 (field_tab i))⟩]
noncomputable def ls_field_SqrtRatio (N : Nat) : List (Nat × Lf) := []
theorem r_field_SqrtRatio (N : Nat) : ∀ x, run Tryd.prog (fun g => lkG g (cs_field_SqrtRatio N)) (glAt gs_field_SqrtRatio 0) (gs_field_SqrtRatio.length + 0) (memAt gs_field_SqrtRatio 0 ++ (unc gs_field_SqrtRatio.length (Ag.mk ((.cons (.ints .u64 5) (.one (.ints .u64 5)))) x)).2) (fun i => lkL i (ls_field_SqrtRatio N)) 100 Tryd.f53 (unc gs_field_SqrtRatio.length (Ag.mk ((.cons (.ints .u64 5) (.one (.ints .u64 5)))) x)).1 none (Pt.get ((.tup (.cons (.ints .u64 5) (.one .bool))))) = field_SqrtRatio N x.1 x.2 := by
  intro x; kernel_rfl
theorem s_field_SqrtRatio {w0 : World} (N : Nat)  (h24 : SoundAt Tryd.prog w0 24 ct_field_Elem_Least) (h25 : SoundAt Tryd.prog w0 25 ct_field_Elem_Neg) (h49 : SoundAt Tryd.prog w0 49 ct_field_Elem_Mul) (h50 : SoundAt Tryd.prog w0 50 ct_field_Elem_Square) (h56 : SoundAt Tryd.prog w0 56 ct_field_Elem_Abs) (h84 : SoundAt Tryd.prog w0 84 (ct_field_Elem_root N)) (hg : GlobOK Tryd.prog w0 gs_field_SqrtRatio) : SoundAt Tryd.prog w0 53 (ct_field_SqrtRatio N) := by
  have hcs : ∀ x ∈ cs_field_SqrtRatio N, SoundAt Tryd.prog w0 x.1 x.2 := by
    intro x hx
    simp only [cs_field_SqrtRatio, List.mem_cons, List.not_mem_nil, or_false] at hx
    rcases hx with rfl | rfl | rfl | rfl | rfl | rfl
    · exact h24
    · exact h25
    · exact h49
    · exact h50
    · exact h56
    · exact h84
  exact fn_printed hcs hg Tryd.func53 (by kernel_rfl) (by kernel_rfl) (S := 0) (fun w _ => loopsOK_nil _) (fun _ => rfl) (r_field_SqrtRatio N)
theorem k_field_SqrtRatio {w0 : World} (N : Nat)  (hg_field_SqrtRatio : GlobOK Tryd.prog w0 gs_field_SqrtRatio) : SoundAt Tryd.prog w0 53 (ct_field_SqrtRatio N) :=
  s_field_SqrtRatio N (k_field_Elem_Least) (k_field_Elem_Neg) (k_field_Elem_Mul) (k_field_Elem_Square) (k_field_Elem_Abs) (k_field_Elem_root N) hg_field_SqrtRatio

def ct_curve_place_whole : Ct := tct (.one (.agg (.cons (.ints .u64 5) (.cons (.ints .u64 5) (.cons (.ints .u64 5) (.one (.ints .u64 5))))))) (.agg (.cons (.ints .u64 5) (.cons (.ints .u64 5) (.cons (.ints .u64 5) (.one (.ints .u64 5)))))) fun x => curve_place_whole x
def cs_curve_place_whole : List (FuncId × Ct) := []
def gs_curve_place_whole : List Gv := [⟨5, 28, (.ints .u64 5 [1, 0, 0, 0, 0])⟩]
noncomputable def ls_curve_place_whole : List (Nat × Lf) := []
theorem r_curve_place_whole : ∀ x, run Tryd.prog (fun g => lkG g (cs_curve_place_whole)) (glAt gs_curve_place_whole 0) (gs_curve_place_whole.length + 0) (memAt gs_curve_place_whole 0 ++ (unc gs_curve_place_whole.length (Ag.mk ((.one (.agg (.cons (.ints .u64 5) (.cons (.ints .u64 5) (.cons (.ints .u64 5) (.one (.ints .u64 5)))))))) x)).2) (fun i => lkL i (ls_curve_place_whole)) 100 Tryd.f67 (unc gs_curve_place_whole.length (Ag.mk ((.one (.agg (.cons (.ints .u64 5) (.cons (.ints .u64 5) (.cons (.ints .u64 5) (.one (.ints .u64 5)))))))) x)).1 none (Pt.get ((.agg (.cons (.ints .u64 5) (.cons (.ints .u64 5) (.cons (.ints .u64 5) (.one (.ints .u64 5)))))))) = curve_place_whole_o x := by
  intro x; kernel_rfl
theorem s_curve_place_whole {w0 : World}  (hg : GlobOK Tryd.prog w0 gs_curve_place_whole) : SoundAt Tryd.prog w0 67 ct_curve_place_whole := by
  have hcs : ∀ x ∈ cs_curve_place_whole, SoundAt Tryd.prog w0 x.1 x.2 := by
    intro x hx
    simp [cs_curve_place_whole] at hx
  exact sound_tct (fn_printed hcs hg Tryd.func67 (by kernel_rfl) (by kernel_rfl) (S := 0) (fun w _ => loopsOK_nil _) (fun _ => rfl) (r_curve_place_whole)) fun _ _ => curve_place_whole_tot _
theorem k_curve_place_whole {w0 : World}  (hg_curve_place_whole : GlobOK Tryd.prog w0 gs_curve_place_whole) : SoundAt Tryd.prog w0 67 ct_curve_place_whole :=
  s_curve_place_whole hg_curve_place_whole

def ct_curve_at : Ct := fct (.cons (.ints .u64 5) (.one (.ints .u64 5))) (.agg (.one (.agg (.cons (.ints .u64 5) (.cons (.ints .u64 5) (.cons (.ints .u64 5) (.one (.ints .u64 5)))))))) fun x => curve_at x.1 x.2
def cs_curve_at : List (FuncId × Ct) := [(49, ct_field_Elem_Mul)]
def gs_curve_at : List Gv := [⟨5, 28, (.ints .u64 5 [1, 0, 0, 0, 0])⟩]
noncomputable def ls_curve_at : List (Nat × Lf) := []
theorem r_curve_at : ∀ x, run Tryd.prog (fun g => lkG g (cs_curve_at)) (glAt gs_curve_at 0) (gs_curve_at.length + 0) (memAt gs_curve_at 0 ++ (unc gs_curve_at.length (Ag.mk ((.cons (.ints .u64 5) (.one (.ints .u64 5)))) x)).2) (fun i => lkL i (ls_curve_at)) 100 Tryd.f87 (unc gs_curve_at.length (Ag.mk ((.cons (.ints .u64 5) (.one (.ints .u64 5)))) x)).1 none (Pt.get ((.agg (.one (.agg (.cons (.ints .u64 5) (.cons (.ints .u64 5) (.cons (.ints .u64 5) (.one (.ints .u64 5)))))))))) = curve_at x.1 x.2 := by
  intro x; kernel_rfl
theorem s_curve_at {w0 : World}  (h49 : SoundAt Tryd.prog w0 49 ct_field_Elem_Mul) (hg : GlobOK Tryd.prog w0 gs_curve_at) : SoundAt Tryd.prog w0 87 ct_curve_at := by
  have hcs : ∀ x ∈ cs_curve_at, SoundAt Tryd.prog w0 x.1 x.2 := by
    intro x hx
    simp only [cs_curve_at, List.mem_cons, List.not_mem_nil, or_false] at hx
    rcases hx with rfl
    · exact h49
  exact fn_printed hcs hg Tryd.func87 (by kernel_rfl) (by kernel_rfl) (S := 0) (fun w _ => loopsOK_nil _) (fun _ => rfl) (r_curve_at)
theorem k_curve_at {w0 : World}  (hg_curve_at : GlobOK Tryd.prog w0 gs_curve_at) : SoundAt Tryd.prog w0 87 ct_curve_at :=
  s_curve_at (k_field_Elem_Mul) hg_curve_at

def ct_curve_made : Ct := fct (.cons (.ints .u64 5) (.cons (.ints .u64 5) (.cons (.ints .u64 5) (.one (.ints .u64 5))))) (.agg (.one (.agg (.cons (.ints .u64 5) (.cons (.ints .u64 5) (.cons (.ints .u64 5) (.one (.ints .u64 5)))))))) fun x => curve_made x.1 x.2.1 x.2.2.1 x.2.2.2
def cs_curve_made : List (FuncId × Ct) := [(49, ct_field_Elem_Mul)]
def gs_curve_made : List Gv := []
noncomputable def ls_curve_made : List (Nat × Lf) := []
theorem r_curve_made : ∀ x, run Tryd.prog (fun g => lkG g (cs_curve_made)) (glAt gs_curve_made 0) (gs_curve_made.length + 0) (memAt gs_curve_made 0 ++ (unc gs_curve_made.length (Ag.mk ((.cons (.ints .u64 5) (.cons (.ints .u64 5) (.cons (.ints .u64 5) (.one (.ints .u64 5)))))) x)).2) (fun i => lkL i (ls_curve_made)) 100 Tryd.f71 (unc gs_curve_made.length (Ag.mk ((.cons (.ints .u64 5) (.cons (.ints .u64 5) (.cons (.ints .u64 5) (.one (.ints .u64 5)))))) x)).1 none (Pt.get ((.agg (.one (.agg (.cons (.ints .u64 5) (.cons (.ints .u64 5) (.cons (.ints .u64 5) (.one (.ints .u64 5)))))))))) = curve_made x.1 x.2.1 x.2.2.1 x.2.2.2 := by
  intro x; kernel_rfl
theorem s_curve_made {w0 : World}  (h49 : SoundAt Tryd.prog w0 49 ct_field_Elem_Mul) : SoundAt Tryd.prog w0 71 ct_curve_made := by
  have hcs : ∀ x ∈ cs_curve_made, SoundAt Tryd.prog w0 x.1 x.2 := by
    intro x hx
    simp only [cs_curve_made, List.mem_cons, List.not_mem_nil, or_false] at hx
    rcases hx with rfl
    · exact h49
  exact fn_printed hcs (glob_nil _ _) Tryd.func71 (by kernel_rfl) (by kernel_rfl) (S := 0) (fun w _ => loopsOK_nil _) (fun _ => rfl) (r_curve_made)
theorem k_curve_made {w0 : World}  : SoundAt Tryd.prog w0 71 ct_curve_made :=
  s_curve_made (k_field_Elem_Mul)

def ct_curve_Point_Add : Ct := fct (.cons (.agg (.one (.agg (.cons (.ints .u64 5) (.cons (.ints .u64 5) (.cons (.ints .u64 5) (.one (.ints .u64 5)))))))) (.one (.agg (.one (.agg (.cons (.ints .u64 5) (.cons (.ints .u64 5) (.cons (.ints .u64 5) (.one (.ints .u64 5)))))))))) (.agg (.one (.agg (.cons (.ints .u64 5) (.cons (.ints .u64 5) (.cons (.ints .u64 5) (.one (.ints .u64 5)))))))) fun x => curve_Point_Add x.1 x.2
def cs_curve_Point_Add : List (FuncId × Ct) := [(49, ct_field_Elem_Mul), (51, ct_field_Elem_Add), (52, ct_field_Elem_Sub), (67, ct_curve_place_whole), (71, ct_curve_made)]
def gs_curve_Point_Add : List Gv := [⟨1, 28, (.ints .u64 5 [1859910466990425, 932731440258426, 1072319116312658, 1815898335770999, 633789495995903])⟩]
noncomputable def ls_curve_Point_Add : List (Nat × Lf) := []
theorem r_curve_Point_Add : ∀ x, run Tryd.prog (fun g => lkG g (cs_curve_Point_Add)) (glAt gs_curve_Point_Add 0) (gs_curve_Point_Add.length + 0) (memAt gs_curve_Point_Add 0 ++ (unc gs_curve_Point_Add.length (Ag.mk ((.cons (.agg (.one (.agg (.cons (.ints .u64 5) (.cons (.ints .u64 5) (.cons (.ints .u64 5) (.one (.ints .u64 5)))))))) (.one (.agg (.one (.agg (.cons (.ints .u64 5) (.cons (.ints .u64 5) (.cons (.ints .u64 5) (.one (.ints .u64 5))))))))))) x)).2) (fun i => lkL i (ls_curve_Point_Add)) 100 Tryd.f30 (unc gs_curve_Point_Add.length (Ag.mk ((.cons (.agg (.one (.agg (.cons (.ints .u64 5) (.cons (.ints .u64 5) (.cons (.ints .u64 5) (.one (.ints .u64 5)))))))) (.one (.agg (.one (.agg (.cons (.ints .u64 5) (.cons (.ints .u64 5) (.cons (.ints .u64 5) (.one (.ints .u64 5))))))))))) x)).1 none (Pt.get ((.agg (.one (.agg (.cons (.ints .u64 5) (.cons (.ints .u64 5) (.cons (.ints .u64 5) (.one (.ints .u64 5)))))))))) = curve_Point_Add x.1 x.2 := by
  intro x; kernel_rfl
theorem s_curve_Point_Add {w0 : World}  (h49 : SoundAt Tryd.prog w0 49 ct_field_Elem_Mul) (h51 : SoundAt Tryd.prog w0 51 ct_field_Elem_Add) (h52 : SoundAt Tryd.prog w0 52 ct_field_Elem_Sub) (h67 : SoundAt Tryd.prog w0 67 ct_curve_place_whole) (h71 : SoundAt Tryd.prog w0 71 ct_curve_made) (hg : GlobOK Tryd.prog w0 gs_curve_Point_Add) : SoundAt Tryd.prog w0 30 ct_curve_Point_Add := by
  have hcs : ∀ x ∈ cs_curve_Point_Add, SoundAt Tryd.prog w0 x.1 x.2 := by
    intro x hx
    simp only [cs_curve_Point_Add, List.mem_cons, List.not_mem_nil, or_false] at hx
    rcases hx with rfl | rfl | rfl | rfl | rfl
    · exact h49
    · exact h51
    · exact h52
    · exact h67
    · exact h71
  exact fn_printed hcs hg Tryd.func30 (by kernel_rfl) (by kernel_rfl) (S := 0) (fun w _ => loopsOK_nil _) (fun _ => rfl) (r_curve_Point_Add)
theorem k_curve_Point_Add {w0 : World}  (hg_curve_place_whole : GlobOK Tryd.prog w0 gs_curve_place_whole) (hg_curve_Point_Add : GlobOK Tryd.prog w0 gs_curve_Point_Add) : SoundAt Tryd.prog w0 30 ct_curve_Point_Add :=
  s_curve_Point_Add (k_field_Elem_Mul) (k_field_Elem_Add) (k_field_Elem_Sub) (k_curve_place_whole hg_curve_place_whole) (k_curve_made) hg_curve_Point_Add

def ct_curve_Point_Neg : Ct := tct (.one (.agg (.one (.agg (.cons (.ints .u64 5) (.cons (.ints .u64 5) (.cons (.ints .u64 5) (.one (.ints .u64 5))))))))) (.agg (.one (.agg (.cons (.ints .u64 5) (.cons (.ints .u64 5) (.cons (.ints .u64 5) (.one (.ints .u64 5)))))))) fun x => curve_Point_Neg x
def cs_curve_Point_Neg : List (FuncId × Ct) := [(25, ct_field_Elem_Neg), (67, ct_curve_place_whole)]
def gs_curve_Point_Neg : List Gv := []
noncomputable def ls_curve_Point_Neg : List (Nat × Lf) := []
theorem r_curve_Point_Neg : ∀ x, run Tryd.prog (fun g => lkG g (cs_curve_Point_Neg)) (glAt gs_curve_Point_Neg 0) (gs_curve_Point_Neg.length + 0) (memAt gs_curve_Point_Neg 0 ++ (unc gs_curve_Point_Neg.length (Ag.mk ((.one (.agg (.one (.agg (.cons (.ints .u64 5) (.cons (.ints .u64 5) (.cons (.ints .u64 5) (.one (.ints .u64 5)))))))))) x)).2) (fun i => lkL i (ls_curve_Point_Neg)) 100 Tryd.f35 (unc gs_curve_Point_Neg.length (Ag.mk ((.one (.agg (.one (.agg (.cons (.ints .u64 5) (.cons (.ints .u64 5) (.cons (.ints .u64 5) (.one (.ints .u64 5)))))))))) x)).1 none (Pt.get ((.agg (.one (.agg (.cons (.ints .u64 5) (.cons (.ints .u64 5) (.cons (.ints .u64 5) (.one (.ints .u64 5)))))))))) = some (curve_Point_Neg x) := by
  intro x; kernel_rfl
theorem s_curve_Point_Neg {w0 : World}  (h25 : SoundAt Tryd.prog w0 25 ct_field_Elem_Neg) (h67 : SoundAt Tryd.prog w0 67 ct_curve_place_whole) : SoundAt Tryd.prog w0 35 ct_curve_Point_Neg := by
  have hcs : ∀ x ∈ cs_curve_Point_Neg, SoundAt Tryd.prog w0 x.1 x.2 := by
    intro x hx
    simp only [cs_curve_Point_Neg, List.mem_cons, List.not_mem_nil, or_false] at hx
    rcases hx with rfl | rfl
    · exact h25
    · exact h67
  exact sound_tct (fn_printed hcs (glob_nil _ _) Tryd.func35 (by kernel_rfl) (by kernel_rfl) (S := 0) (fun w _ => loopsOK_nil _) (fun _ => rfl) (r_curve_Point_Neg)) fun _ _ => rfl
theorem k_curve_Point_Neg {w0 : World}  (hg_curve_place_whole : GlobOK Tryd.prog w0 gs_curve_place_whole) : SoundAt Tryd.prog w0 35 ct_curve_Point_Neg :=
  s_curve_Point_Neg (k_field_Elem_Neg) (k_curve_place_whole hg_curve_place_whole)

def ct_curve_Point_Sub : Ct := fct (.cons (.agg (.one (.agg (.cons (.ints .u64 5) (.cons (.ints .u64 5) (.cons (.ints .u64 5) (.one (.ints .u64 5)))))))) (.one (.agg (.one (.agg (.cons (.ints .u64 5) (.cons (.ints .u64 5) (.cons (.ints .u64 5) (.one (.ints .u64 5)))))))))) (.agg (.one (.agg (.cons (.ints .u64 5) (.cons (.ints .u64 5) (.cons (.ints .u64 5) (.one (.ints .u64 5)))))))) fun x => curve_Point_Sub x.1 x.2
def cs_curve_Point_Sub : List (FuncId × Ct) := [(30, ct_curve_Point_Add), (35, ct_curve_Point_Neg)]
def gs_curve_Point_Sub : List Gv := []
noncomputable def ls_curve_Point_Sub : List (Nat × Lf) := []
theorem r_curve_Point_Sub : ∀ x, run Tryd.prog (fun g => lkG g (cs_curve_Point_Sub)) (glAt gs_curve_Point_Sub 0) (gs_curve_Point_Sub.length + 0) (memAt gs_curve_Point_Sub 0 ++ (unc gs_curve_Point_Sub.length (Ag.mk ((.cons (.agg (.one (.agg (.cons (.ints .u64 5) (.cons (.ints .u64 5) (.cons (.ints .u64 5) (.one (.ints .u64 5)))))))) (.one (.agg (.one (.agg (.cons (.ints .u64 5) (.cons (.ints .u64 5) (.cons (.ints .u64 5) (.one (.ints .u64 5))))))))))) x)).2) (fun i => lkL i (ls_curve_Point_Sub)) 100 Tryd.f32 (unc gs_curve_Point_Sub.length (Ag.mk ((.cons (.agg (.one (.agg (.cons (.ints .u64 5) (.cons (.ints .u64 5) (.cons (.ints .u64 5) (.one (.ints .u64 5)))))))) (.one (.agg (.one (.agg (.cons (.ints .u64 5) (.cons (.ints .u64 5) (.cons (.ints .u64 5) (.one (.ints .u64 5))))))))))) x)).1 none (Pt.get ((.agg (.one (.agg (.cons (.ints .u64 5) (.cons (.ints .u64 5) (.cons (.ints .u64 5) (.one (.ints .u64 5)))))))))) = curve_Point_Sub x.1 x.2 := by
  intro x; kernel_rfl
theorem s_curve_Point_Sub {w0 : World}  (h30 : SoundAt Tryd.prog w0 30 ct_curve_Point_Add) (h35 : SoundAt Tryd.prog w0 35 ct_curve_Point_Neg) : SoundAt Tryd.prog w0 32 ct_curve_Point_Sub := by
  have hcs : ∀ x ∈ cs_curve_Point_Sub, SoundAt Tryd.prog w0 x.1 x.2 := by
    intro x hx
    simp only [cs_curve_Point_Sub, List.mem_cons, List.not_mem_nil, or_false] at hx
    rcases hx with rfl | rfl
    · exact h30
    · exact h35
  exact fn_printed hcs (glob_nil _ _) Tryd.func32 (by kernel_rfl) (by kernel_rfl) (S := 0) (fun w _ => loopsOK_nil _) (fun _ => rfl) (r_curve_Point_Sub)
theorem k_curve_Point_Sub {w0 : World}  (hg_curve_place_whole : GlobOK Tryd.prog w0 gs_curve_place_whole) (hg_curve_Point_Add : GlobOK Tryd.prog w0 gs_curve_Point_Add) : SoundAt Tryd.prog w0 32 ct_curve_Point_Sub :=
  s_curve_Point_Sub (k_curve_Point_Add hg_curve_place_whole hg_curve_Point_Add) (k_curve_Point_Neg hg_curve_place_whole)

def ct_curve_Point_Double : Ct := fct (.one (.agg (.one (.agg (.cons (.ints .u64 5) (.cons (.ints .u64 5) (.cons (.ints .u64 5) (.one (.ints .u64 5))))))))) (.agg (.one (.agg (.cons (.ints .u64 5) (.cons (.ints .u64 5) (.cons (.ints .u64 5) (.one (.ints .u64 5)))))))) fun x => curve_Point_Double x
def cs_curve_Point_Double : List (FuncId × Ct) := [(25, ct_field_Elem_Neg), (50, ct_field_Elem_Square), (51, ct_field_Elem_Add), (52, ct_field_Elem_Sub), (67, ct_curve_place_whole), (71, ct_curve_made)]
def gs_curve_Point_Double : List Gv := []
noncomputable def ls_curve_Point_Double : List (Nat × Lf) := []
theorem r_curve_Point_Double : ∀ x, run Tryd.prog (fun g => lkG g (cs_curve_Point_Double)) (glAt gs_curve_Point_Double 0) (gs_curve_Point_Double.length + 0) (memAt gs_curve_Point_Double 0 ++ (unc gs_curve_Point_Double.length (Ag.mk ((.one (.agg (.one (.agg (.cons (.ints .u64 5) (.cons (.ints .u64 5) (.cons (.ints .u64 5) (.one (.ints .u64 5)))))))))) x)).2) (fun i => lkL i (ls_curve_Point_Double)) 100 Tryd.f33 (unc gs_curve_Point_Double.length (Ag.mk ((.one (.agg (.one (.agg (.cons (.ints .u64 5) (.cons (.ints .u64 5) (.cons (.ints .u64 5) (.one (.ints .u64 5)))))))))) x)).1 none (Pt.get ((.agg (.one (.agg (.cons (.ints .u64 5) (.cons (.ints .u64 5) (.cons (.ints .u64 5) (.one (.ints .u64 5)))))))))) = curve_Point_Double x := by
  intro x; kernel_rfl
theorem s_curve_Point_Double {w0 : World}  (h25 : SoundAt Tryd.prog w0 25 ct_field_Elem_Neg) (h50 : SoundAt Tryd.prog w0 50 ct_field_Elem_Square) (h51 : SoundAt Tryd.prog w0 51 ct_field_Elem_Add) (h52 : SoundAt Tryd.prog w0 52 ct_field_Elem_Sub) (h67 : SoundAt Tryd.prog w0 67 ct_curve_place_whole) (h71 : SoundAt Tryd.prog w0 71 ct_curve_made) : SoundAt Tryd.prog w0 33 ct_curve_Point_Double := by
  have hcs : ∀ x ∈ cs_curve_Point_Double, SoundAt Tryd.prog w0 x.1 x.2 := by
    intro x hx
    simp only [cs_curve_Point_Double, List.mem_cons, List.not_mem_nil, or_false] at hx
    rcases hx with rfl | rfl | rfl | rfl | rfl | rfl
    · exact h25
    · exact h50
    · exact h51
    · exact h52
    · exact h67
    · exact h71
  exact fn_printed hcs (glob_nil _ _) Tryd.func33 (by kernel_rfl) (by kernel_rfl) (S := 0) (fun w _ => loopsOK_nil _) (fun _ => rfl) (r_curve_Point_Double)
theorem k_curve_Point_Double {w0 : World}  (hg_curve_place_whole : GlobOK Tryd.prog w0 gs_curve_place_whole) : SoundAt Tryd.prog w0 33 ct_curve_Point_Double :=
  s_curve_Point_Double (k_field_Elem_Neg) (k_field_Elem_Square) (k_field_Elem_Add) (k_field_Elem_Sub) (k_curve_place_whole hg_curve_place_whole) (k_curve_made)

def ct_curve_Point_Same : Ct := fct (.cons (.agg (.one (.agg (.cons (.ints .u64 5) (.cons (.ints .u64 5) (.cons (.ints .u64 5) (.one (.ints .u64 5)))))))) (.one (.agg (.one (.agg (.cons (.ints .u64 5) (.cons (.ints .u64 5) (.cons (.ints .u64 5) (.one (.ints .u64 5)))))))))) .bool fun x => curve_Point_Same x.1 x.2
def cs_curve_Point_Same : List (FuncId × Ct) := [(49, ct_field_Elem_Mul), (67, ct_curve_place_whole)]
def gs_curve_Point_Same : List Gv := []
noncomputable def ls_curve_Point_Same : List (Nat × Lf) := []
theorem r_curve_Point_Same : ∀ x, run Tryd.prog (fun g => lkG g (cs_curve_Point_Same)) (glAt gs_curve_Point_Same 0) (gs_curve_Point_Same.length + 0) (memAt gs_curve_Point_Same 0 ++ (unc gs_curve_Point_Same.length (Ag.mk ((.cons (.agg (.one (.agg (.cons (.ints .u64 5) (.cons (.ints .u64 5) (.cons (.ints .u64 5) (.one (.ints .u64 5)))))))) (.one (.agg (.one (.agg (.cons (.ints .u64 5) (.cons (.ints .u64 5) (.cons (.ints .u64 5) (.one (.ints .u64 5))))))))))) x)).2) (fun i => lkL i (ls_curve_Point_Same)) 100 Tryd.f27 (unc gs_curve_Point_Same.length (Ag.mk ((.cons (.agg (.one (.agg (.cons (.ints .u64 5) (.cons (.ints .u64 5) (.cons (.ints .u64 5) (.one (.ints .u64 5)))))))) (.one (.agg (.one (.agg (.cons (.ints .u64 5) (.cons (.ints .u64 5) (.cons (.ints .u64 5) (.one (.ints .u64 5))))))))))) x)).1 none (Pt.get (.bool)) = curve_Point_Same x.1 x.2 := by
  intro x; kernel_rfl
theorem s_curve_Point_Same {w0 : World}  (h49 : SoundAt Tryd.prog w0 49 ct_field_Elem_Mul) (h67 : SoundAt Tryd.prog w0 67 ct_curve_place_whole) : SoundAt Tryd.prog w0 27 ct_curve_Point_Same := by
  have hcs : ∀ x ∈ cs_curve_Point_Same, SoundAt Tryd.prog w0 x.1 x.2 := by
    intro x hx
    simp only [cs_curve_Point_Same, List.mem_cons, List.not_mem_nil, or_false] at hx
    rcases hx with rfl | rfl
    · exact h49
    · exact h67
  exact fn_printed hcs (glob_nil _ _) Tryd.func27 (by kernel_rfl) (by kernel_rfl) (S := 0) (fun w _ => loopsOK_nil _) (fun _ => rfl) (r_curve_Point_Same)
theorem k_curve_Point_Same {w0 : World}  (hg_curve_place_whole : GlobOK Tryd.prog w0 gs_curve_place_whole) : SoundAt Tryd.prog w0 27 ct_curve_Point_Same :=
  s_curve_Point_Same (k_field_Elem_Mul) (k_curve_place_whole hg_curve_place_whole)

def ct_curve_Point_Affine (N : Nat) : Ct := fct (.one (.agg (.one (.agg (.cons (.ints .u64 5) (.cons (.ints .u64 5) (.cons (.ints .u64 5) (.one (.ints .u64 5))))))))) (.tup (.cons (.ints .u64 5) (.one (.ints .u64 5)))) fun x => curve_Point_Affine N x
def cs_curve_Point_Affine (N : Nat) : List (FuncId × Ct) := [(49, ct_field_Elem_Mul), (57, (ct_field_Elem_Invert N)), (67, ct_curve_place_whole)]
def gs_curve_Point_Affine : List Gv := []
noncomputable def ls_curve_Point_Affine (N : Nat) : List (Nat × Lf) := []
theorem r_curve_Point_Affine (N : Nat) : ∀ x, run Tryd.prog (fun g => lkG g (cs_curve_Point_Affine N)) (glAt gs_curve_Point_Affine 0) (gs_curve_Point_Affine.length + 0) (memAt gs_curve_Point_Affine 0 ++ (unc gs_curve_Point_Affine.length (Ag.mk ((.one (.agg (.one (.agg (.cons (.ints .u64 5) (.cons (.ints .u64 5) (.cons (.ints .u64 5) (.one (.ints .u64 5)))))))))) x)).2) (fun i => lkL i (ls_curve_Point_Affine N)) 100 Tryd.f59 (unc gs_curve_Point_Affine.length (Ag.mk ((.one (.agg (.one (.agg (.cons (.ints .u64 5) (.cons (.ints .u64 5) (.cons (.ints .u64 5) (.one (.ints .u64 5)))))))))) x)).1 none (Pt.get ((.tup (.cons (.ints .u64 5) (.one (.ints .u64 5)))))) = curve_Point_Affine N x := by
  intro x; kernel_rfl
theorem s_curve_Point_Affine {w0 : World} (N : Nat)  (h49 : SoundAt Tryd.prog w0 49 ct_field_Elem_Mul) (h57 : SoundAt Tryd.prog w0 57 (ct_field_Elem_Invert N)) (h67 : SoundAt Tryd.prog w0 67 ct_curve_place_whole) : SoundAt Tryd.prog w0 59 (ct_curve_Point_Affine N) := by
  have hcs : ∀ x ∈ cs_curve_Point_Affine N, SoundAt Tryd.prog w0 x.1 x.2 := by
    intro x hx
    simp only [cs_curve_Point_Affine, List.mem_cons, List.not_mem_nil, or_false] at hx
    rcases hx with rfl | rfl | rfl
    · exact h49
    · exact h57
    · exact h67
  exact fn_printed hcs (glob_nil _ _) Tryd.func59 (by kernel_rfl) (by kernel_rfl) (S := 0) (fun w _ => loopsOK_nil _) (fun _ => rfl) (r_curve_Point_Affine N)
theorem k_curve_Point_Affine {w0 : World} (N : Nat)  (hg_curve_place_whole : GlobOK Tryd.prog w0 gs_curve_place_whole) : SoundAt Tryd.prog w0 59 (ct_curve_Point_Affine N) :=
  s_curve_Point_Affine N (k_field_Elem_Mul) (k_field_Elem_Invert N) (k_curve_place_whole hg_curve_place_whole)

def ct_curve_FromAffine : Ct := fct (.cons (.ints .u64 5) (.one (.ints .u64 5))) (.tup (.cons (.agg (.one (.agg (.cons (.ints .u64 5) (.cons (.ints .u64 5) (.cons (.ints .u64 5) (.one (.ints .u64 5)))))))) (.one (.int .i64)))) fun x => curve_FromAffine x.1 x.2
def cs_curve_FromAffine : List (FuncId × Ct) := [(24, ct_field_Elem_Least), (48, ct_field_Const), (49, ct_field_Elem_Mul), (50, ct_field_Elem_Square), (51, ct_field_Elem_Add), (52, ct_field_Elem_Sub), (87, ct_curve_at)]
def gs_curve_FromAffine : List Gv := [⟨5, 28, (.ints .u64 5 [1, 0, 0, 0, 0])⟩]
noncomputable def ls_curve_FromAffine : List (Nat × Lf) := []
theorem r_curve_FromAffine : ∀ x, run Tryd.prog (fun g => lkG g (cs_curve_FromAffine)) (glAt gs_curve_FromAffine 0) (gs_curve_FromAffine.length + 0) (memAt gs_curve_FromAffine 0 ++ (unc gs_curve_FromAffine.length (Ag.mk ((.cons (.ints .u64 5) (.one (.ints .u64 5)))) x)).2) (fun i => lkL i (ls_curve_FromAffine)) 100 Tryd.f58 (unc gs_curve_FromAffine.length (Ag.mk ((.cons (.ints .u64 5) (.one (.ints .u64 5)))) x)).1 none (Pt.get ((.tup (.cons (.agg (.one (.agg (.cons (.ints .u64 5) (.cons (.ints .u64 5) (.cons (.ints .u64 5) (.one (.ints .u64 5)))))))) (.one (.int .i64)))))) = curve_FromAffine x.1 x.2 := by
  intro x; kernel_rfl
theorem s_curve_FromAffine {w0 : World}  (h24 : SoundAt Tryd.prog w0 24 ct_field_Elem_Least) (h48 : SoundAt Tryd.prog w0 48 ct_field_Const) (h49 : SoundAt Tryd.prog w0 49 ct_field_Elem_Mul) (h50 : SoundAt Tryd.prog w0 50 ct_field_Elem_Square) (h51 : SoundAt Tryd.prog w0 51 ct_field_Elem_Add) (h52 : SoundAt Tryd.prog w0 52 ct_field_Elem_Sub) (h87 : SoundAt Tryd.prog w0 87 ct_curve_at) (hg : GlobOK Tryd.prog w0 gs_curve_FromAffine) : SoundAt Tryd.prog w0 58 ct_curve_FromAffine := by
  have hcs : ∀ x ∈ cs_curve_FromAffine, SoundAt Tryd.prog w0 x.1 x.2 := by
    intro x hx
    simp only [cs_curve_FromAffine, List.mem_cons, List.not_mem_nil, or_false] at hx
    rcases hx with rfl | rfl | rfl | rfl | rfl | rfl | rfl
    · exact h24
    · exact h48
    · exact h49
    · exact h50
    · exact h51
    · exact h52
    · exact h87
  exact fn_printed hcs hg Tryd.func58 (by kernel_rfl) (by kernel_rfl) (S := 0) (fun w _ => loopsOK_nil _) (fun _ => rfl) (r_curve_FromAffine)
theorem k_curve_FromAffine {w0 : World}  (hg_field_Const : GlobOK Tryd.prog w0 gs_field_Const) (hg_curve_at : GlobOK Tryd.prog w0 gs_curve_at) (hg_curve_FromAffine : GlobOK Tryd.prog w0 gs_curve_FromAffine) : SoundAt Tryd.prog w0 58 ct_curve_FromAffine :=
  s_curve_FromAffine (k_field_Elem_Least) (k_field_Const hg_field_Const) (k_field_Elem_Mul) (k_field_Elem_Square) (k_field_Elem_Add) (k_field_Elem_Sub) (k_curve_at hg_curve_at) hg_curve_FromAffine

def ct_curve_Base : Ct := tct .nil (.agg (.one (.agg (.cons (.ints .u64 5) (.cons (.ints .u64 5) (.cons (.ints .u64 5) (.one (.ints .u64 5)))))))) fun x => curve_Base
def cs_curve_Base : List (FuncId × Ct) := []
def gs_curve_Base : List Gv := [⟨6, 32, (.agg [(.agg [(.ints .u64 5 [1738742601995546, 1146398526822698, 2070867633025821, 562264141797630, 587772402128613]), (.ints .u64 5 [1801439850948184, 1351079888211148, 450359962737049, 900719925474099, 1801439850948198]), (.ints .u64 5 [1, 0, 0, 0, 0]), (.ints .u64 5 [1841354044333475, 16398895984059, 755974180946558, 900171276175154, 1821297809914039])])])⟩]
noncomputable def ls_curve_Base : List (Nat × Lf) := []
theorem r_curve_Base : ∀ x, run Tryd.prog (fun g => lkG g (cs_curve_Base)) (glAt gs_curve_Base 0) (gs_curve_Base.length + 0) (memAt gs_curve_Base 0 ++ (unc gs_curve_Base.length (Ag.mk (.nil) x)).2) (fun i => lkL i (ls_curve_Base)) 100 Tryd.f68 (unc gs_curve_Base.length (Ag.mk (.nil) x)).1 none (Pt.get ((.agg (.one (.agg (.cons (.ints .u64 5) (.cons (.ints .u64 5) (.cons (.ints .u64 5) (.one (.ints .u64 5)))))))))) = some (curve_Base) := by
  intro x; kernel_rfl
theorem s_curve_Base {w0 : World}  (hg : GlobOK Tryd.prog w0 gs_curve_Base) : SoundAt Tryd.prog w0 68 ct_curve_Base := by
  have hcs : ∀ x ∈ cs_curve_Base, SoundAt Tryd.prog w0 x.1 x.2 := by
    intro x hx
    simp [cs_curve_Base] at hx
  exact sound_tct (fn_printed hcs hg Tryd.func68 (by kernel_rfl) (by kernel_rfl) (S := 0) (fun w _ => loopsOK_nil _) (fun _ => rfl) (r_curve_Base)) fun _ _ => rfl
theorem k_curve_Base {w0 : World}  (hg_curve_Base : GlobOK Tryd.prog w0 gs_curve_Base) : SoundAt Tryd.prog w0 68 ct_curve_Base :=
  s_curve_Base hg_curve_Base

def ct_curve_Point_TimesBytes (N : Nat) : Ct := fct (.cons (.agg (.one (.agg (.cons (.ints .u64 5) (.cons (.ints .u64 5) (.cons (.ints .u64 5) (.one (.ints .u64 5)))))))) (.one (.ints .u8 32))) (.agg (.one (.agg (.cons (.ints .u64 5) (.cons (.ints .u64 5) (.cons (.ints .u64 5) (.one (.ints .u64 5)))))))) fun x => curve_Point_TimesBytes N x.1 x.2
def cs_curve_Point_TimesBytes (N : Nat) : List (FuncId × Ct) := [(30, ct_curve_Point_Add), (33, ct_curve_Point_Double)]
def gs_curve_Point_TimesBytes : List Gv := []
def curve_Point_TimesBytes_l0_H : Fm ((Unit × Unit × Unit × Unit × Int)) (((List Int × List Int × List Int × List Int) × List Int × Unit)) := ⟨(.cons 2 (.lit (.ptr 0 [] 32)) (.cons 3 (.lit (.ptr 1 [] 53)) (.cons 4 (.lit (.ptr 2 [] 32)) (.cons 5 (.lit (.int .i64 (-1))) (.one 6 (.int .i64)))))), (.cons 0 (.agg (.one (.agg (.cons (.ints .u64 5) (.cons (.ints .u64 5) (.cons (.ints .u64 5) (.one (.ints .u64 5)))))))) (.cons 1 (.ints .u8 32) (.one 2 (.lit (.agg [(.agg [(.ints .u64 5 [0, 0, 0, 0, 0]), (.ints .u64 5 [0, 0, 0, 0, 0]), (.ints .u64 5 [0, 0, 0, 0, 0]), (.ints .u64 5 [0, 0, 0, 0, 0])])])))))⟩
def curve_Point_TimesBytes_l0_O : Fm ((Unit × Unit × Unit × Int)) (((List Int × List Int × List Int × List Int) × List Int × Unit)) := ⟨(.cons 2 (.lit (.ptr 0 [] 32)) (.cons 3 (.lit (.ptr 1 [] 53)) (.cons 4 (.lit (.ptr 2 [] 32)) (.one 5 (.int .i64))))), (.cons 0 (.agg (.one (.agg (.cons (.ints .u64 5) (.cons (.ints .u64 5) (.cons (.ints .u64 5) (.one (.ints .u64 5)))))))) (.cons 1 (.ints .u8 32) (.one 2 (.lit (.agg [(.agg [(.ints .u64 5 [0, 0, 0, 0, 0]), (.ints .u64 5 [0, 0, 0, 0, 0]), (.ints .u64 5 [0, 0, 0, 0, 0]), (.ints .u64 5 [0, 0, 0, 0, 0])])])))))⟩
def curve_Point_TimesBytes_l0_T : Fm (Unit) (Unit) := ⟨.nil, .nil⟩
def curve_Point_TimesBytes_l6_H : Fm ((Unit × Unit × Unit × Unit × Int)) ((List Int × Unit × ((List Int × List Int × List Int × List Int) × (List Int × List Int × List Int × List Int) × (List Int × List Int × List Int × List Int) × (List Int × List Int × List Int × List Int) × (List Int × List Int × List Int × List Int) × (List Int × List Int × List Int × List Int) × (List Int × List Int × List Int × List Int) × (List Int × List Int × List Int × List Int) × (List Int × List Int × List Int × List Int) × (List Int × List Int × List Int × List Int) × (List Int × List Int × List Int × List Int) × (List Int × List Int × List Int × List Int) × (List Int × List Int × List Int × List Int) × (List Int × List Int × List Int × List Int) × (List Int × List Int × List Int × List Int) × (List Int × List Int × List Int × List Int)) × (List Int × List Int × List Int × List Int))) := ⟨(.cons 3 (.lit (.ptr 1 [] 53)) (.cons 4 (.lit (.ptr 2 [] 32)) (.cons 9 (.lit (.ptr 5 [] 114)) (.cons 11 (.lit (.ptr 219 [] 32)) (.one 12 (.int .i64)))))), (.cons 1 (.ints .u8 32) (.cons 2 (.lit (.agg [(.agg [(.ints .u64 5 [0, 0, 0, 0, 0]), (.ints .u64 5 [0, 0, 0, 0, 0]), (.ints .u64 5 [0, 0, 0, 0, 0]), (.ints .u64 5 [0, 0, 0, 0, 0])])])) (.cons 5 (.agg (.cons (.agg (.one (.agg (.cons (.ints .u64 5) (.cons (.ints .u64 5) (.cons (.ints .u64 5) (.one (.ints .u64 5)))))))) (.cons (.agg (.one (.agg (.cons (.ints .u64 5) (.cons (.ints .u64 5) (.cons (.ints .u64 5) (.one (.ints .u64 5)))))))) (.cons (.agg (.one (.agg (.cons (.ints .u64 5) (.cons (.ints .u64 5) (.cons (.ints .u64 5) (.one (.ints .u64 5)))))))) (.cons (.agg (.one (.agg (.cons (.ints .u64 5) (.cons (.ints .u64 5) (.cons (.ints .u64 5) (.one (.ints .u64 5)))))))) (.cons (.agg (.one (.agg (.cons (.ints .u64 5) (.cons (.ints .u64 5) (.cons (.ints .u64 5) (.one (.ints .u64 5)))))))) (.cons (.agg (.one (.agg (.cons (.ints .u64 5) (.cons (.ints .u64 5) (.cons (.ints .u64 5) (.one (.ints .u64 5)))))))) (.cons (.agg (.one (.agg (.cons (.ints .u64 5) (.cons (.ints .u64 5) (.cons (.ints .u64 5) (.one (.ints .u64 5)))))))) (.cons (.agg (.one (.agg (.cons (.ints .u64 5) (.cons (.ints .u64 5) (.cons (.ints .u64 5) (.one (.ints .u64 5)))))))) (.cons (.agg (.one (.agg (.cons (.ints .u64 5) (.cons (.ints .u64 5) (.cons (.ints .u64 5) (.one (.ints .u64 5)))))))) (.cons (.agg (.one (.agg (.cons (.ints .u64 5) (.cons (.ints .u64 5) (.cons (.ints .u64 5) (.one (.ints .u64 5)))))))) (.cons (.agg (.one (.agg (.cons (.ints .u64 5) (.cons (.ints .u64 5) (.cons (.ints .u64 5) (.one (.ints .u64 5)))))))) (.cons (.agg (.one (.agg (.cons (.ints .u64 5) (.cons (.ints .u64 5) (.cons (.ints .u64 5) (.one (.ints .u64 5)))))))) (.cons (.agg (.one (.agg (.cons (.ints .u64 5) (.cons (.ints .u64 5) (.cons (.ints .u64 5) (.one (.ints .u64 5)))))))) (.cons (.agg (.one (.agg (.cons (.ints .u64 5) (.cons (.ints .u64 5) (.cons (.ints .u64 5) (.one (.ints .u64 5)))))))) (.cons (.agg (.one (.agg (.cons (.ints .u64 5) (.cons (.ints .u64 5) (.cons (.ints .u64 5) (.one (.ints .u64 5)))))))) (.one (.agg (.one (.agg (.cons (.ints .u64 5) (.cons (.ints .u64 5) (.cons (.ints .u64 5) (.one (.ints .u64 5))))))))))))))))))))))))) (.one 219 (.agg (.one (.agg (.cons (.ints .u64 5) (.cons (.ints .u64 5) (.cons (.ints .u64 5) (.one (.ints .u64 5))))))))))))⟩
def curve_Point_TimesBytes_l6_O : Fm ((Unit × Unit)) ((Unit × (List Int × List Int × List Int × List Int))) := ⟨(.cons 4 (.lit (.ptr 2 [] 32)) (.one 11 (.lit (.ptr 219 [] 32)))), (.cons 2 (.lit (.agg [(.agg [(.ints .u64 5 [0, 0, 0, 0, 0]), (.ints .u64 5 [0, 0, 0, 0, 0]), (.ints .u64 5 [0, 0, 0, 0, 0]), (.ints .u64 5 [0, 0, 0, 0, 0])])])) (.one 219 (.agg (.one (.agg (.cons (.ints .u64 5) (.cons (.ints .u64 5) (.cons (.ints .u64 5) (.one (.ints .u64 5))))))))))⟩
def curve_Point_TimesBytes_l6_T : Fm (Unit) (Unit) := ⟨.nil, .nil⟩
noncomputable def ls_curve_Point_TimesBytes (N : Nat) : List (Nat × Lf) := [(0, loopCt curve_Point_TimesBytes_l0_H curve_Point_TimesBytes_l0_O curve_Point_TimesBytes_l0_T 5 (curve_Point_TimesBytes_l0 N) N), (6, loopCt curve_Point_TimesBytes_l6_H curve_Point_TimesBytes_l6_O curve_Point_TimesBytes_l6_T 222 (curve_Point_TimesBytes_l6 N) N)]
theorem curve_Point_TimesBytes_l0_step (N : Nat) : ∀ v, exec Tryd.prog (cxOf Tryd.f73 (cs_curve_Point_TimesBytes N) gs_curve_Point_TimesBytes 0) (fun i => lkL i (ls_curve_Point_TimesBytes N)) 100 none (loopBody Tryd.f73 0) (curve_Point_TimesBytes_l0_H.st 5 v) (rdEnd curve_Point_TimesBytes_l0_H curve_Point_TimesBytes_l0_O curve_Point_TimesBytes_l0_T 5 0) = curve_Point_TimesBytes_l0 N v := by
  intro v; kernel_rfl
theorem curve_Point_TimesBytes_l6_step (N : Nat) : ∀ v, exec Tryd.prog (cxOf Tryd.f73 (cs_curve_Point_TimesBytes N) gs_curve_Point_TimesBytes 0) (fun i => lkL i (ls_curve_Point_TimesBytes N)) 100 none (loopBody Tryd.f73 6) (curve_Point_TimesBytes_l6_H.st 222 v) (rdEnd curve_Point_TimesBytes_l6_H curve_Point_TimesBytes_l6_O curve_Point_TimesBytes_l6_T 222 6) = curve_Point_TimesBytes_l6 N v := by
  intro v; kernel_rfl
theorem r_curve_Point_TimesBytes (N : Nat) : ∀ x, run Tryd.prog (fun g => lkG g (cs_curve_Point_TimesBytes N)) (glAt gs_curve_Point_TimesBytes 0) (gs_curve_Point_TimesBytes.length + 0) (memAt gs_curve_Point_TimesBytes 0 ++ (unc gs_curve_Point_TimesBytes.length (Ag.mk ((.cons (.agg (.one (.agg (.cons (.ints .u64 5) (.cons (.ints .u64 5) (.cons (.ints .u64 5) (.one (.ints .u64 5)))))))) (.one (.ints .u8 32)))) x)).2) (fun i => lkL i (ls_curve_Point_TimesBytes N)) 100 Tryd.f73 (unc gs_curve_Point_TimesBytes.length (Ag.mk ((.cons (.agg (.one (.agg (.cons (.ints .u64 5) (.cons (.ints .u64 5) (.cons (.ints .u64 5) (.one (.ints .u64 5)))))))) (.one (.ints .u8 32)))) x)).1 none (Pt.get ((.agg (.one (.agg (.cons (.ints .u64 5) (.cons (.ints .u64 5) (.cons (.ints .u64 5) (.one (.ints .u64 5)))))))))) = curve_Point_TimesBytes N x.1 x.2 := by
  intro x; kernel_rfl
theorem s_curve_Point_TimesBytes {w0 : World} (N : Nat)  (h30 : SoundAt Tryd.prog w0 30 ct_curve_Point_Add) (h33 : SoundAt Tryd.prog w0 33 ct_curve_Point_Double) : SoundAt Tryd.prog w0 73 (ct_curve_Point_TimesBytes N) := by
  have hcs : ∀ x ∈ cs_curve_Point_TimesBytes N, SoundAt Tryd.prog w0 x.1 x.2 := by
    intro x hx
    simp only [cs_curve_Point_TimesBytes, List.mem_cons, List.not_mem_nil, or_false] at hx
    rcases hx with rfl | rfl
    · exact h30
    · exact h33
  have L0 : ∀ w, RowKit.Below w0.heap.size w0 w → LoopOK Tryd.prog (cxOf Tryd.f73 (cs_curve_Point_TimesBytes N) gs_curve_Point_TimesBytes 0) w 0 (.loop (loopBody Tryd.f73 0)) (loopCt curve_Point_TimesBytes_l0_H curve_Point_TimesBytes_l0_O curve_Point_TimesBytes_l0_T 5 (curve_Point_TimesBytes_l0 N) N) :=
    loop_printed hcs (ls := ls_curve_Point_TimesBytes N) (n := 100) (by kernel_rfl) (curve_Point_TimesBytes_l0_step N) N fun w hw => loopsOK_list (by
      intro x hx
      simp only [ls_curve_Point_TimesBytes, List.mem_cons, List.not_mem_nil, or_false] at hx
      rcases hx with rfl | rfl
      · exact .inl (by kernel_rfl)
      · exact .inl (by kernel_rfl)
    )
  have L6 : ∀ w, RowKit.Below w0.heap.size w0 w → LoopOK Tryd.prog (cxOf Tryd.f73 (cs_curve_Point_TimesBytes N) gs_curve_Point_TimesBytes 0) w 6 (.loop (loopBody Tryd.f73 6)) (loopCt curve_Point_TimesBytes_l6_H curve_Point_TimesBytes_l6_O curve_Point_TimesBytes_l6_T 222 (curve_Point_TimesBytes_l6 N) N) :=
    loop_printed hcs (ls := ls_curve_Point_TimesBytes N) (n := 100) (by kernel_rfl) (curve_Point_TimesBytes_l6_step N) N fun w hw => loopsOK_list (by
      intro x hx
      simp only [ls_curve_Point_TimesBytes, List.mem_cons, List.not_mem_nil, or_false] at hx
      rcases hx with rfl | rfl
      · exact .inl (by kernel_rfl)
      · exact .inl (by kernel_rfl)
    )
  exact fn_printed hcs (glob_nil _ _) Tryd.func73 (by kernel_rfl) (by kernel_rfl) (S := 0) (fun w hw => loopsOK_list (by
    intro x hx
    simp only [ls_curve_Point_TimesBytes, List.mem_cons, List.not_mem_nil, or_false] at hx
    rcases hx with rfl | rfl
    · exact .inr ⟨_, by kernel_rfl, L0 w hw⟩
    · exact .inr ⟨_, by kernel_rfl, L6 w hw⟩
  )) (fun _ => rfl) (r_curve_Point_TimesBytes N)
theorem k_curve_Point_TimesBytes {w0 : World} (N : Nat)  (hg_curve_place_whole : GlobOK Tryd.prog w0 gs_curve_place_whole) (hg_curve_Point_Add : GlobOK Tryd.prog w0 gs_curve_Point_Add) : SoundAt Tryd.prog w0 73 (ct_curve_Point_TimesBytes N) :=
  s_curve_Point_TimesBytes N (k_curve_Point_Add hg_curve_place_whole hg_curve_Point_Add) (k_curve_Point_Double hg_curve_place_whole)

def ct_curve_Point_Free (N : Nat) : Ct := fct (.one (.agg (.one (.agg (.cons (.ints .u64 5) (.cons (.ints .u64 5) (.cons (.ints .u64 5) (.one (.ints .u64 5))))))))) .bool fun x => curve_Point_Free N x
def cs_curve_Point_Free (N : Nat) : List (FuncId × Ct) := [(27, ct_curve_Point_Same), (73, (ct_curve_Point_TimesBytes N))]
def gs_curve_Point_Free : List Gv := [⟨3, 53, (.ints .u8 32 [237, 211, 245, 92, 26, 99, 18, 88, 214, 156, 247, 162, 222, 249, 222, 20, 0, 0, 0, 0, 0, 0, 0, 0, 0, 0, 0, 0, 0, 0, 0, 16])⟩]
noncomputable def ls_curve_Point_Free (N : Nat) : List (Nat × Lf) := []
theorem r_curve_Point_Free (N : Nat) : ∀ x, run Tryd.prog (fun g => lkG g (cs_curve_Point_Free N)) (glAt gs_curve_Point_Free 0) (gs_curve_Point_Free.length + 0) (memAt gs_curve_Point_Free 0 ++ (unc gs_curve_Point_Free.length (Ag.mk ((.one (.agg (.one (.agg (.cons (.ints .u64 5) (.cons (.ints .u64 5) (.cons (.ints .u64 5) (.one (.ints .u64 5)))))))))) x)).2) (fun i => lkL i (ls_curve_Point_Free N)) 100 Tryd.f42 (unc gs_curve_Point_Free.length (Ag.mk ((.one (.agg (.one (.agg (.cons (.ints .u64 5) (.cons (.ints .u64 5) (.cons (.ints .u64 5) (.one (.ints .u64 5)))))))))) x)).1 none (Pt.get (.bool)) = curve_Point_Free N x := by
  intro x; kernel_rfl
theorem s_curve_Point_Free {w0 : World} (N : Nat)  (h27 : SoundAt Tryd.prog w0 27 ct_curve_Point_Same) (h73 : SoundAt Tryd.prog w0 73 (ct_curve_Point_TimesBytes N)) (hg : GlobOK Tryd.prog w0 gs_curve_Point_Free) : SoundAt Tryd.prog w0 42 (ct_curve_Point_Free N) := by
  have hcs : ∀ x ∈ cs_curve_Point_Free N, SoundAt Tryd.prog w0 x.1 x.2 := by
    intro x hx
    simp only [cs_curve_Point_Free, List.mem_cons, List.not_mem_nil, or_false] at hx
    rcases hx with rfl | rfl
    · exact h27
    · exact h73
  exact fn_printed hcs hg Tryd.func42 (by kernel_rfl) (by kernel_rfl) (S := 0) (fun w _ => loopsOK_nil _) (fun _ => rfl) (r_curve_Point_Free N)
theorem k_curve_Point_Free {w0 : World} (N : Nat)  (hg_curve_place_whole : GlobOK Tryd.prog w0 gs_curve_place_whole) (hg_curve_Point_Add : GlobOK Tryd.prog w0 gs_curve_Point_Add) (hg_curve_Point_Free : GlobOK Tryd.prog w0 gs_curve_Point_Free) : SoundAt Tryd.prog w0 42 (ct_curve_Point_Free N) :=
  s_curve_Point_Free N (k_curve_Point_Same hg_curve_place_whole) (k_curve_Point_TimesBytes N hg_curve_place_whole hg_curve_Point_Add) hg_curve_Point_Free

def ct_curve_Point_Compress (N : Nat) : Ct := fct (.one (.agg (.one (.agg (.cons (.ints .u64 5) (.cons (.ints .u64 5) (.cons (.ints .u64 5) (.one (.ints .u64 5))))))))) (.ints .u8 32) fun x => curve_Point_Compress N x
def cs_curve_Point_Compress (N : Nat) : List (FuncId × Ct) := [(59, (ct_curve_Point_Affine N)), (60, ct_field_Elem_Negative), (61, ct_field_Elem_Encode)]
def gs_curve_Point_Compress : List Gv := []
noncomputable def is_curve_Point_Compress (N : Nat) : List (FuncId × Inl) := ((78, inlOf Tryd.prog (cs_curve_Point_Compress N) gs_curve_Point_Compress 0 100 [] Tryd.f78) :: [])
theorem isok_curve_Point_Compress (N : Nat) : InlAll Tryd.prog (cs_curve_Point_Compress N) gs_curve_Point_Compress 0 100 (is_curve_Point_Compress N) := ⟨⟨Tryd.f78, Tryd.func78, by kernel_rfl, by kernel_rfl, rfl⟩, trivial⟩
noncomputable def ls_curve_Point_Compress (N : Nat) : List (Nat × Lf) := []
theorem r_curve_Point_Compress (N : Nat) : ∀ x, run Tryd.prog (fun g => lkG g (cs_curve_Point_Compress N)) (glAt gs_curve_Point_Compress 0) (gs_curve_Point_Compress.length + 0) (memAt gs_curve_Point_Compress 0 ++ (unc gs_curve_Point_Compress.length (Ag.mk ((.one (.agg (.one (.agg (.cons (.ints .u64 5) (.cons (.ints .u64 5) (.cons (.ints .u64 5) (.one (.ints .u64 5)))))))))) x)).2) (fun i => lkL i (ls_curve_Point_Compress N)) 100 Tryd.f45 (unc gs_curve_Point_Compress.length (Ag.mk ((.one (.agg (.one (.agg (.cons (.ints .u64 5) (.cons (.ints .u64 5) (.cons (.ints .u64 5) (.one (.ints .u64 5)))))))))) x)).1 none (Pt.get ((.ints .u8 32))) (fun g => lkI g (is_curve_Point_Compress N)) = curve_Point_Compress N x := by
  intro x; kernel_rfl
theorem s_curve_Point_Compress {w0 : World} (N : Nat)  (h59 : SoundAt Tryd.prog w0 59 (ct_curve_Point_Affine N)) (h60 : SoundAt Tryd.prog w0 60 ct_field_Elem_Negative) (h61 : SoundAt Tryd.prog w0 61 ct_field_Elem_Encode) : SoundAt Tryd.prog w0 45 (ct_curve_Point_Compress N) := by
  have hcs : ∀ x ∈ cs_curve_Point_Compress N, SoundAt Tryd.prog w0 x.1 x.2 := by
    intro x hx
    simp only [cs_curve_Point_Compress, List.mem_cons, List.not_mem_nil, or_false] at hx
    rcases hx with rfl | rfl | rfl
    · exact h59
    · exact h60
    · exact h61
  exact fn_printedI hcs (glob_nil _ _) (isok_curve_Point_Compress N) Tryd.func45 (by kernel_rfl) (by kernel_rfl) (S := 0) (fun w _ => loopsOK_nil _) (fun _ => rfl) (r_curve_Point_Compress N)
theorem k_curve_Point_Compress {w0 : World} (N : Nat)  (hg_curve_place_whole : GlobOK Tryd.prog w0 gs_curve_place_whole) : SoundAt Tryd.prog w0 45 (ct_curve_Point_Compress N) :=
  s_curve_Point_Compress N (k_curve_Point_Affine N hg_curve_place_whole) (k_field_Elem_Negative) (k_field_Elem_Encode)

def ct_curve_Torsion : Ct := fct (.one (.int .i64)) (.agg (.one (.agg (.cons (.ints .u64 5) (.cons (.ints .u64 5) (.cons (.ints .u64 5) (.one (.ints .u64 5)))))))) fun x => curve_Torsion x
def cs_curve_Torsion : List (FuncId × Ct) := []
def gs_curve_Torsion : List Gv := [⟨2, 96, (.agg [(.agg [(.agg [(.ints .u64 5 [0, 0, 0, 0, 0]), (.ints .u64 5 [0, 0, 0, 0, 0]), (.ints .u64 5 [0, 0, 0, 0, 0]), (.ints .u64 5 [0, 0, 0, 0, 0])])]), (.agg [(.agg [(.ints .u64 5 [358744748052810, 1691584618240980, 977650209285361, 1429865912637724, 560044844278676]), (.ints .u64 5 [2166873539340326, 1778179147085316, 1886209374839743, 1223329526802818, 105300633354275]), (.ints .u64 5 [1, 0, 0, 0, 0]), (.ints .u64 5 [803472979097708, 393902981724766, 1158077081819914, 574391322974006, 336294660666841])])]), (.agg [(.agg [(.ints .u64 5 [1718705420411056, 234908883556509, 2233514472574048, 2117202627021982, 765476049583133]), (.ints .u64 5 [0, 0, 0, 0, 0]), (.ints .u64 5 [1, 0, 0, 0, 0]), (.ints .u64 5 [0, 0, 0, 0, 0])])]), (.agg [(.agg [(.ints .u64 5 [358744748052810, 1691584618240980, 977650209285361, 1429865912637724, 560044844278676]), (.ints .u64 5 [84926274344903, 473620666599931, 365590438845504, 1028470286882429, 2146499180330972]), (.ints .u64 5 [1, 0, 0, 0, 0]), (.ints .u64 5 [1448326834587521, 1857896831960481, 1093722731865333, 1677408490711241, 1915505153018406])])]), (.agg [(.agg [(.ints .u64 5 [0, 0, 0, 0, 0]), (.ints .u64 5 [2251799813685228, 2251799813685247, 2251799813685247, 2251799813685247, 2251799813685247]), (.ints .u64 5 [1, 0, 0, 0, 0]), (.ints .u64 5 [0, 0, 0, 0, 0])])]), (.agg [(.agg [(.ints .u64 5 [1893055065632419, 560215195444267, 1274149604399886, 821933901047523, 1691754969406571]), (.ints .u64 5 [84926274344903, 473620666599931, 365590438845504, 1028470286882429, 2146499180330972]), (.ints .u64 5 [1, 0, 0, 0, 0]), (.ints .u64 5 [803472979097708, 393902981724766, 1158077081819914, 574391322974006, 336294660666841])])]), (.agg [(.agg [(.ints .u64 5 [533094393274173, 2016890930128738, 18285341111199, 134597186663265, 1486323764102114]), (.ints .u64 5 [0, 0, 0, 0, 0]), (.ints .u64 5 [1, 0, 0, 0, 0]), (.ints .u64 5 [0, 0, 0, 0, 0])])]), (.agg [(.agg [(.ints .u64 5 [1893055065632419, 560215195444267, 1274149604399886, 821933901047523, 1691754969406571]), (.ints .u64 5 [2166873539340326, 1778179147085316, 1886209374839743, 1223329526802818, 105300633354275]), (.ints .u64 5 [1, 0, 0, 0, 0]), (.ints .u64 5 [1448326834587521, 1857896831960481, 1093722731865333, 1677408490711241, 1915505153018406])])])])⟩]
noncomputable def ls_curve_Torsion : List (Nat × Lf) := []
theorem r_curve_Torsion : ∀ x, run Tryd.prog (fun g => lkG g (cs_curve_Torsion)) (glAt gs_curve_Torsion 0) (gs_curve_Torsion.length + 0) (memAt gs_curve_Torsion 0 ++ (unc gs_curve_Torsion.length (Ag.mk ((.one (.int .i64))) x)).2) (fun i => lkL i (ls_curve_Torsion)) 100 Tryd.f31 (unc gs_curve_Torsion.length (Ag.mk ((.one (.int .i64))) x)).1 none (Pt.get ((.agg (.one (.agg (.cons (.ints .u64 5) (.cons (.ints .u64 5) (.cons (.ints .u64 5) (.one (.ints .u64 5)))))))))) = curve_Torsion x := by
  intro x; kernel_rfl
theorem s_curve_Torsion {w0 : World}  (hg : GlobOK Tryd.prog w0 gs_curve_Torsion) : SoundAt Tryd.prog w0 31 ct_curve_Torsion := by
  have hcs : ∀ x ∈ cs_curve_Torsion, SoundAt Tryd.prog w0 x.1 x.2 := by
    intro x hx
    simp [cs_curve_Torsion] at hx
  exact fn_printed hcs hg Tryd.func31 (by kernel_rfl) (by kernel_rfl) (S := 0) (fun w _ => loopsOK_nil _) (fun _ => rfl) (r_curve_Torsion)
theorem k_curve_Torsion {w0 : World}  (hg_curve_Torsion : GlobOK Tryd.prog w0 gs_curve_Torsion) : SoundAt Tryd.prog w0 31 ct_curve_Torsion :=
  s_curve_Torsion hg_curve_Torsion

def ct_scalar_minus : Ct := fct (.cons (.ints .u64 4) (.one (.ints .u64 4))) (.tup (.cons (.ints .u64 4) (.one (.int .u64)))) fun x => scalar_minus x.1 x.2
def cs_scalar_minus : List (FuncId × Ct) := [(88, ct_bits_Sub64)]
def gs_scalar_minus : List Gv := []
noncomputable def ls_scalar_minus : List (Nat × Lf) := []
theorem r_scalar_minus : ∀ x, run Tryd.prog (fun g => lkG g (cs_scalar_minus)) (glAt gs_scalar_minus 0) (gs_scalar_minus.length + 0) (memAt gs_scalar_minus 0 ++ (unc gs_scalar_minus.length (Ag.mk ((.cons (.ints .u64 4) (.one (.ints .u64 4)))) x)).2) (fun i => lkL i (ls_scalar_minus)) 100 Tryd.f65 (unc gs_scalar_minus.length (Ag.mk ((.cons (.ints .u64 4) (.one (.ints .u64 4)))) x)).1 none (Pt.get ((.tup (.cons (.ints .u64 4) (.one (.int .u64)))))) = scalar_minus x.1 x.2 := by
  intro x; kernel_rfl
theorem s_scalar_minus {w0 : World}  (h88 : SoundAt Tryd.prog w0 88 ct_bits_Sub64) : SoundAt Tryd.prog w0 65 ct_scalar_minus := by
  have hcs : ∀ x ∈ cs_scalar_minus, SoundAt Tryd.prog w0 x.1 x.2 := by
    intro x hx
    simp only [cs_scalar_minus, List.mem_cons, List.not_mem_nil, or_false] at hx
    rcases hx with rfl
    · exact h88
  exact fn_printed hcs (glob_nil _ _) Tryd.func65 (by kernel_rfl) (by kernel_rfl) (S := 0) (fun w _ => loopsOK_nil _) (fun _ => rfl) (r_scalar_minus)
theorem k_scalar_minus {w0 : World}  : SoundAt Tryd.prog w0 65 ct_scalar_minus :=
  s_scalar_minus (k_bits_Sub64)

def ct_scalar_plus : Ct := fct (.cons (.ints .u64 4) (.one (.ints .u64 4))) (.tup (.cons (.ints .u64 4) (.one (.int .u64)))) fun x => scalar_plus x.1 x.2
def cs_scalar_plus : List (FuncId × Ct) := [(64, ct_bits_Add64)]
def gs_scalar_plus : List Gv := []
noncomputable def ls_scalar_plus : List (Nat × Lf) := []
theorem r_scalar_plus : ∀ x, run Tryd.prog (fun g => lkG g (cs_scalar_plus)) (glAt gs_scalar_plus 0) (gs_scalar_plus.length + 0) (memAt gs_scalar_plus 0 ++ (unc gs_scalar_plus.length (Ag.mk ((.cons (.ints .u64 4) (.one (.ints .u64 4)))) x)).2) (fun i => lkL i (ls_scalar_plus)) 100 Tryd.f38 (unc gs_scalar_plus.length (Ag.mk ((.cons (.ints .u64 4) (.one (.ints .u64 4)))) x)).1 none (Pt.get ((.tup (.cons (.ints .u64 4) (.one (.int .u64)))))) = scalar_plus x.1 x.2 := by
  intro x; kernel_rfl
theorem s_scalar_plus {w0 : World}  (h64 : SoundAt Tryd.prog w0 64 ct_bits_Add64) : SoundAt Tryd.prog w0 38 ct_scalar_plus := by
  have hcs : ∀ x ∈ cs_scalar_plus, SoundAt Tryd.prog w0 x.1 x.2 := by
    intro x hx
    simp only [cs_scalar_plus, List.mem_cons, List.not_mem_nil, or_false] at hx
    rcases hx with rfl
    · exact h64
  exact fn_printed hcs (glob_nil _ _) Tryd.func38 (by kernel_rfl) (by kernel_rfl) (S := 0) (fun w _ => loopsOK_nil _) (fun _ => rfl) (r_scalar_plus)
theorem k_scalar_plus {w0 : World}  : SoundAt Tryd.prog w0 38 ct_scalar_plus :=
  s_scalar_plus (k_bits_Add64)

def ct_scalar_choose : Ct := tct (.cons (.int .u64) (.cons (.ints .u64 4) (.one (.ints .u64 4)))) (.ints .u64 4) fun x => scalar_choose x.1 x.2.1 x.2.2
def cs_scalar_choose : List (FuncId × Ct) := []
def gs_scalar_choose : List Gv := []
noncomputable def ls_scalar_choose : List (Nat × Lf) := []
theorem r_scalar_choose : ∀ x, run Tryd.prog (fun g => lkG g (cs_scalar_choose)) (glAt gs_scalar_choose 0) (gs_scalar_choose.length + 0) (memAt gs_scalar_choose 0 ++ (unc gs_scalar_choose.length (Ag.mk ((.cons (.int .u64) (.cons (.ints .u64 4) (.one (.ints .u64 4))))) x)).2) (fun i => lkL i (ls_scalar_choose)) 100 Tryd.f66 (unc gs_scalar_choose.length (Ag.mk ((.cons (.int .u64) (.cons (.ints .u64 4) (.one (.ints .u64 4))))) x)).1 none (Pt.get ((.ints .u64 4))) = some (scalar_choose x.1 x.2.1 x.2.2) := by
  intro x; kernel_rfl
theorem s_scalar_choose {w0 : World}  : SoundAt Tryd.prog w0 66 ct_scalar_choose := by
  have hcs : ∀ x ∈ cs_scalar_choose, SoundAt Tryd.prog w0 x.1 x.2 := by
    intro x hx
    simp [cs_scalar_choose] at hx
  exact sound_tct (fn_printed hcs (glob_nil _ _) Tryd.func66 (by kernel_rfl) (by kernel_rfl) (S := 0) (fun w _ => loopsOK_nil _) (fun _ => rfl) (r_scalar_choose)) fun _ _ => rfl
theorem k_scalar_choose {w0 : World}  : SoundAt Tryd.prog w0 66 ct_scalar_choose :=
  s_scalar_choose

def ct_scalar_lower : Ct := fct (.one (.ints .u64 4)) (.ints .u64 4) fun x => scalar_lower x
def cs_scalar_lower : List (FuncId × Ct) := [(65, ct_scalar_minus), (66, ct_scalar_choose)]
def gs_scalar_lower : List Gv := [⟨0, 70, (.agg [(.ints .u64 4 [6346243789798364141, 1503914060200516822, 0, 1152921504606846976]), (.ints .u64 4 [15486807595281847581, 14334777244411350896, 18446744073709551614, 1152921504606846975]), (.ints .u64 4 [11819153939886771969, 14991950615390032711, 14910419812499177061, 259310039853996605]), (.ints .u64 4 [6346243789798364139, 1503914060200516822, 0, 1152921504606846976])])⟩]
noncomputable def ls_scalar_lower : List (Nat × Lf) := []
theorem r_scalar_lower : ∀ x, run Tryd.prog (fun g => lkG g (cs_scalar_lower)) (glAt gs_scalar_lower 0) (gs_scalar_lower.length + 0) (memAt gs_scalar_lower 0 ++ (unc gs_scalar_lower.length (Ag.mk ((.one (.ints .u64 4))) x)).2) (fun i => lkL i (ls_scalar_lower)) 100 Tryd.f39 (unc gs_scalar_lower.length (Ag.mk ((.one (.ints .u64 4))) x)).1 none (Pt.get ((.ints .u64 4))) = scalar_lower x := by
  intro x; kernel_rfl
theorem s_scalar_lower {w0 : World}  (h65 : SoundAt Tryd.prog w0 65 ct_scalar_minus) (h66 : SoundAt Tryd.prog w0 66 ct_scalar_choose) (hg : GlobOK Tryd.prog w0 gs_scalar_lower) : SoundAt Tryd.prog w0 39 ct_scalar_lower := by
  have hcs : ∀ x ∈ cs_scalar_lower, SoundAt Tryd.prog w0 x.1 x.2 := by
    intro x hx
    simp only [cs_scalar_lower, List.mem_cons, List.not_mem_nil, or_false] at hx
    rcases hx with rfl | rfl
    · exact h65
    · exact h66
  exact fn_printed hcs hg Tryd.func39 (by kernel_rfl) (by kernel_rfl) (S := 0) (fun w _ => loopsOK_nil _) (fun _ => rfl) (r_scalar_lower)
theorem k_scalar_lower {w0 : World}  (hg_scalar_lower : GlobOK Tryd.prog w0 gs_scalar_lower) : SoundAt Tryd.prog w0 39 ct_scalar_lower :=
  s_scalar_lower (k_scalar_minus) (k_scalar_choose) hg_scalar_lower

def ct_scalar_Scalar_Least : Ct := fct (.one (.ints .u64 4)) (.ints .u64 4) fun x => scalar_Scalar_Least x
def cs_scalar_Scalar_Least : List (FuncId × Ct) := [(38, ct_scalar_plus), (39, ct_scalar_lower), (63, ct_bits_Mul64), (64, ct_bits_Add64), (65, ct_scalar_minus), (66, ct_scalar_choose)]
def gs_scalar_Scalar_Least : List Gv := [⟨0, 70, (.agg [(.ints .u64 4 [6346243789798364141, 1503914060200516822, 0, 1152921504606846976]), (.ints .u64 4 [15486807595281847581, 14334777244411350896, 18446744073709551614, 1152921504606846975]), (.ints .u64 4 [11819153939886771969, 14991950615390032711, 14910419812499177061, 259310039853996605]), (.ints .u64 4 [6346243789798364139, 1503914060200516822, 0, 1152921504606846976])])⟩]
noncomputable def ls_scalar_Scalar_Least : List (Nat × Lf) := []
theorem r_scalar_Scalar_Least : ∀ x, run Tryd.prog (fun g => lkG g (cs_scalar_Scalar_Least)) (glAt gs_scalar_Scalar_Least 0) (gs_scalar_Scalar_Least.length + 0) (memAt gs_scalar_Scalar_Least 0 ++ (unc gs_scalar_Scalar_Least.length (Ag.mk ((.one (.ints .u64 4))) x)).2) (fun i => lkL i (ls_scalar_Scalar_Least)) 100 Tryd.f26 (unc gs_scalar_Scalar_Least.length (Ag.mk ((.one (.ints .u64 4))) x)).1 none (Pt.get ((.ints .u64 4))) = scalar_Scalar_Least x := by
  intro x; kernel_rfl
theorem s_scalar_Scalar_Least {w0 : World}  (h38 : SoundAt Tryd.prog w0 38 ct_scalar_plus) (h39 : SoundAt Tryd.prog w0 39 ct_scalar_lower) (h63 : SoundAt Tryd.prog w0 63 ct_bits_Mul64) (h64 : SoundAt Tryd.prog w0 64 ct_bits_Add64) (h65 : SoundAt Tryd.prog w0 65 ct_scalar_minus) (h66 : SoundAt Tryd.prog w0 66 ct_scalar_choose) (hg : GlobOK Tryd.prog w0 gs_scalar_Scalar_Least) : SoundAt Tryd.prog w0 26 ct_scalar_Scalar_Least := by
  have hcs : ∀ x ∈ cs_scalar_Scalar_Least, SoundAt Tryd.prog w0 x.1 x.2 := by
    intro x hx
    simp only [cs_scalar_Scalar_Least, List.mem_cons, List.not_mem_nil, or_false] at hx
    rcases hx with rfl | rfl | rfl | rfl | rfl | rfl
    · exact h38
    · exact h39
    · exact h63
    · exact h64
    · exact h65
    · exact h66
  exact fn_printed hcs hg Tryd.func26 (by kernel_rfl) (by kernel_rfl) (S := 0) (fun w _ => loopsOK_nil _) (fun _ => rfl) (r_scalar_Scalar_Least)
theorem k_scalar_Scalar_Least {w0 : World}  (hg_scalar_lower : GlobOK Tryd.prog w0 gs_scalar_lower) (hg_scalar_Scalar_Least : GlobOK Tryd.prog w0 gs_scalar_Scalar_Least) : SoundAt Tryd.prog w0 26 ct_scalar_Scalar_Least :=
  s_scalar_Scalar_Least (k_scalar_plus) (k_scalar_lower hg_scalar_lower) (k_bits_Mul64) (k_bits_Add64) (k_scalar_minus) (k_scalar_choose) hg_scalar_Scalar_Least

def ct_scalar_Scalar_Encode (N : Nat) : Ct := fct (.one (.ints .u64 4)) (.ints .u8 32) fun x => scalar_Scalar_Encode N x
def cs_scalar_Scalar_Encode (N : Nat) : List (FuncId × Ct) := [(26, ct_scalar_Scalar_Least)]
def gs_scalar_Scalar_Encode : List Gv := []
def scalar_Scalar_Encode_l0_H : Fm ((Unit × Unit × Unit × Int)) ((List Int × Unit × List Int)) := ⟨(.cons 1 (.lit (.ptr 0 [] 36)) (.cons 2 (.lit (.ptr 1 [] 53)) (.cons 3 (.lit (.ptr 5 [] 53)) (.one 7 (.int .i64))))), (.cons 0 (.ints .u64 4) (.cons 1 (.lit (.ints .u8 32 [0, 0, 0, 0, 0, 0, 0, 0, 0, 0, 0, 0, 0, 0, 0, 0, 0, 0, 0, 0, 0, 0, 0, 0, 0, 0, 0, 0, 0, 0, 0, 0])) (.one 5 (.ints .u8 32))))⟩
def scalar_Scalar_Encode_l0_O : Fm ((Unit × Unit)) ((Unit × List Int)) := ⟨(.cons 2 (.lit (.ptr 1 [] 53)) (.one 3 (.lit (.ptr 5 [] 53)))), (.cons 1 (.lit (.ints .u8 32 [0, 0, 0, 0, 0, 0, 0, 0, 0, 0, 0, 0, 0, 0, 0, 0, 0, 0, 0, 0, 0, 0, 0, 0, 0, 0, 0, 0, 0, 0, 0, 0])) (.one 5 (.ints .u8 32)))⟩
def scalar_Scalar_Encode_l0_T : Fm (Unit) (Unit) := ⟨.nil, .nil⟩
noncomputable def ls_scalar_Scalar_Encode (N : Nat) : List (Nat × Lf) := [(0, loopCt scalar_Scalar_Encode_l0_H scalar_Scalar_Encode_l0_O scalar_Scalar_Encode_l0_T 7 (scalar_Scalar_Encode_l0 N) N)]
theorem scalar_Scalar_Encode_l0_step (N : Nat) : ∀ v, exec Tryd.prog (cxOf Tryd.f74 (cs_scalar_Scalar_Encode N) gs_scalar_Scalar_Encode 0) (fun i => lkL i (ls_scalar_Scalar_Encode N)) 100 none (loopBody Tryd.f74 0) (scalar_Scalar_Encode_l0_H.st 7 v) (rdEnd scalar_Scalar_Encode_l0_H scalar_Scalar_Encode_l0_O scalar_Scalar_Encode_l0_T 7 0) = scalar_Scalar_Encode_l0 N v := by
  intro v; kernel_rfl
theorem r_scalar_Scalar_Encode (N : Nat) : ∀ x, run Tryd.prog (fun g => lkG g (cs_scalar_Scalar_Encode N)) (glAt gs_scalar_Scalar_Encode 0) (gs_scalar_Scalar_Encode.length + 0) (memAt gs_scalar_Scalar_Encode 0 ++ (unc gs_scalar_Scalar_Encode.length (Ag.mk ((.one (.ints .u64 4))) x)).2) (fun i => lkL i (ls_scalar_Scalar_Encode N)) 100 Tryd.f74 (unc gs_scalar_Scalar_Encode.length (Ag.mk ((.one (.ints .u64 4))) x)).1 none (Pt.get ((.ints .u8 32))) = scalar_Scalar_Encode N x := by
  intro x; kernel_rfl
theorem s_scalar_Scalar_Encode {w0 : World} (N : Nat)  (h26 : SoundAt Tryd.prog w0 26 ct_scalar_Scalar_Least) : SoundAt Tryd.prog w0 74 (ct_scalar_Scalar_Encode N) := by
  have hcs : ∀ x ∈ cs_scalar_Scalar_Encode N, SoundAt Tryd.prog w0 x.1 x.2 := by
    intro x hx
    simp only [cs_scalar_Scalar_Encode, List.mem_cons, List.not_mem_nil, or_false] at hx
    rcases hx with rfl
    · exact h26
  have L0 : ∀ w, RowKit.Below w0.heap.size w0 w → LoopOK Tryd.prog (cxOf Tryd.f74 (cs_scalar_Scalar_Encode N) gs_scalar_Scalar_Encode 0) w 0 (.loop (loopBody Tryd.f74 0)) (loopCt scalar_Scalar_Encode_l0_H scalar_Scalar_Encode_l0_O scalar_Scalar_Encode_l0_T 7 (scalar_Scalar_Encode_l0 N) N) :=
    loop_printed hcs (ls := ls_scalar_Scalar_Encode N) (n := 100) (by kernel_rfl) (scalar_Scalar_Encode_l0_step N) N fun w hw => loopsOK_list (by
      intro x hx
      simp only [ls_scalar_Scalar_Encode, List.mem_cons, List.not_mem_nil, or_false] at hx
      rcases hx with rfl
      · exact .inl (by kernel_rfl)
    )
  exact fn_printed hcs (glob_nil _ _) Tryd.func74 (by kernel_rfl) (by kernel_rfl) (S := 0) (fun w hw => loopsOK_list (by
    intro x hx
    simp only [ls_scalar_Scalar_Encode, List.mem_cons, List.not_mem_nil, or_false] at hx
    rcases hx with rfl
    · exact .inr ⟨_, by kernel_rfl, L0 w hw⟩
  )) (fun _ => rfl) (r_scalar_Scalar_Encode N)
theorem k_scalar_Scalar_Encode {w0 : World} (N : Nat)  (hg_scalar_lower : GlobOK Tryd.prog w0 gs_scalar_lower) (hg_scalar_Scalar_Least : GlobOK Tryd.prog w0 gs_scalar_Scalar_Least) : SoundAt Tryd.prog w0 74 (ct_scalar_Scalar_Encode N) :=
  s_scalar_Scalar_Encode N (k_scalar_Scalar_Least hg_scalar_lower hg_scalar_Scalar_Least)

def ct_curve_Point_Times (N : Nat) : Ct := fct (.cons (.agg (.one (.agg (.cons (.ints .u64 5) (.cons (.ints .u64 5) (.cons (.ints .u64 5) (.one (.ints .u64 5)))))))) (.one (.ints .u64 4))) (.agg (.one (.agg (.cons (.ints .u64 5) (.cons (.ints .u64 5) (.cons (.ints .u64 5) (.one (.ints .u64 5)))))))) fun x => curve_Point_Times N x.1 x.2
def cs_curve_Point_Times (N : Nat) : List (FuncId × Ct) := [(73, (ct_curve_Point_TimesBytes N)), (74, (ct_scalar_Scalar_Encode N))]
def gs_curve_Point_Times : List Gv := []
noncomputable def ls_curve_Point_Times (N : Nat) : List (Nat × Lf) := []
theorem r_curve_Point_Times (N : Nat) : ∀ x, run Tryd.prog (fun g => lkG g (cs_curve_Point_Times N)) (glAt gs_curve_Point_Times 0) (gs_curve_Point_Times.length + 0) (memAt gs_curve_Point_Times 0 ++ (unc gs_curve_Point_Times.length (Ag.mk ((.cons (.agg (.one (.agg (.cons (.ints .u64 5) (.cons (.ints .u64 5) (.cons (.ints .u64 5) (.one (.ints .u64 5)))))))) (.one (.ints .u64 4)))) x)).2) (fun i => lkL i (ls_curve_Point_Times N)) 100 Tryd.f37 (unc gs_curve_Point_Times.length (Ag.mk ((.cons (.agg (.one (.agg (.cons (.ints .u64 5) (.cons (.ints .u64 5) (.cons (.ints .u64 5) (.one (.ints .u64 5)))))))) (.one (.ints .u64 4)))) x)).1 none (Pt.get ((.agg (.one (.agg (.cons (.ints .u64 5) (.cons (.ints .u64 5) (.cons (.ints .u64 5) (.one (.ints .u64 5)))))))))) = curve_Point_Times N x.1 x.2 := by
  intro x; kernel_rfl
theorem s_curve_Point_Times {w0 : World} (N : Nat)  (h73 : SoundAt Tryd.prog w0 73 (ct_curve_Point_TimesBytes N)) (h74 : SoundAt Tryd.prog w0 74 (ct_scalar_Scalar_Encode N)) : SoundAt Tryd.prog w0 37 (ct_curve_Point_Times N) := by
  have hcs : ∀ x ∈ cs_curve_Point_Times N, SoundAt Tryd.prog w0 x.1 x.2 := by
    intro x hx
    simp only [cs_curve_Point_Times, List.mem_cons, List.not_mem_nil, or_false] at hx
    rcases hx with rfl | rfl
    · exact h73
    · exact h74
  exact fn_printed hcs (glob_nil _ _) Tryd.func37 (by kernel_rfl) (by kernel_rfl) (S := 0) (fun w _ => loopsOK_nil _) (fun _ => rfl) (r_curve_Point_Times N)
theorem k_curve_Point_Times {w0 : World} (N : Nat)  (hg_curve_place_whole : GlobOK Tryd.prog w0 gs_curve_place_whole) (hg_curve_Point_Add : GlobOK Tryd.prog w0 gs_curve_Point_Add) (hg_scalar_lower : GlobOK Tryd.prog w0 gs_scalar_lower) (hg_scalar_Scalar_Least : GlobOK Tryd.prog w0 gs_scalar_Scalar_Least) : SoundAt Tryd.prog w0 37 (ct_curve_Point_Times N) :=
  s_curve_Point_Times N (k_curve_Point_TimesBytes N hg_curve_place_whole hg_curve_Point_Add) (k_scalar_Scalar_Encode N hg_scalar_lower hg_scalar_Scalar_Least)

def ct_scalar_into : Ct := fct (.cons (.int .u64) (.cons (.int .u64) (.cons (.int .u64) (.one (.int .u64))))) (.tup (.cons (.int .u64) (.one (.int .u64)))) fun x => scalar_into x.1 x.2.1 x.2.2.1 x.2.2.2
def cs_scalar_into : List (FuncId × Ct) := [(63, ct_bits_Mul64), (64, ct_bits_Add64)]
def gs_scalar_into : List Gv := []
noncomputable def ls_scalar_into : List (Nat × Lf) := []
theorem r_scalar_into : ∀ x, run Tryd.prog (fun g => lkG g (cs_scalar_into)) (glAt gs_scalar_into 0) (gs_scalar_into.length + 0) (memAt gs_scalar_into 0 ++ (unc gs_scalar_into.length (Ag.mk ((.cons (.int .u64) (.cons (.int .u64) (.cons (.int .u64) (.one (.int .u64)))))) x)).2) (fun i => lkL i (ls_scalar_into)) 100 Tryd.f75 (unc gs_scalar_into.length (Ag.mk ((.cons (.int .u64) (.cons (.int .u64) (.cons (.int .u64) (.one (.int .u64)))))) x)).1 none (Pt.get ((.tup (.cons (.int .u64) (.one (.int .u64)))))) = scalar_into x.1 x.2.1 x.2.2.1 x.2.2.2 := by
  intro x; kernel_rfl
theorem s_scalar_into {w0 : World}  (h63 : SoundAt Tryd.prog w0 63 ct_bits_Mul64) (h64 : SoundAt Tryd.prog w0 64 ct_bits_Add64) : SoundAt Tryd.prog w0 75 ct_scalar_into := by
  have hcs : ∀ x ∈ cs_scalar_into, SoundAt Tryd.prog w0 x.1 x.2 := by
    intro x hx
    simp only [cs_scalar_into, List.mem_cons, List.not_mem_nil, or_false] at hx
    rcases hx with rfl | rfl
    · exact h63
    · exact h64
  exact fn_printed hcs (glob_nil _ _) Tryd.func75 (by kernel_rfl) (by kernel_rfl) (S := 0) (fun w _ => loopsOK_nil _) (fun _ => rfl) (r_scalar_into)
theorem k_scalar_into {w0 : World}  : SoundAt Tryd.prog w0 75 ct_scalar_into :=
  s_scalar_into (k_bits_Mul64) (k_bits_Add64)

def ct_scalar_product (N : Nat) : Ct := fct (.cons (.ints .u64 4) (.one (.ints .u64 4))) (.ints .u64 4) fun x => scalar_product N x.1 x.2
def cs_scalar_product (N : Nat) : List (FuncId × Ct) := [(39, ct_scalar_lower), (64, ct_bits_Add64), (75, ct_scalar_into)]
def gs_scalar_product : List Gv := [⟨0, 70, (.agg [(.ints .u64 4 [6346243789798364141, 1503914060200516822, 0, 1152921504606846976]), (.ints .u64 4 [15486807595281847581, 14334777244411350896, 18446744073709551614, 1152921504606846975]), (.ints .u64 4 [11819153939886771969, 14991950615390032711, 14910419812499177061, 259310039853996605]), (.ints .u64 4 [6346243789798364139, 1503914060200516822, 0, 1152921504606846976])])⟩]
def scalar_product_l0_H : Fm ((Unit × Unit × Unit × Unit × Int)) ((Unit × List Int × List Int × Unit × List Int)) := ⟨(.cons 2 (.lit (.ptr 1 [] 36)) (.cons 3 (.lit (.ptr 2 [] 36)) (.cons 4 (.lit (.ptr 3 [] 36)) (.cons 5 (.lit (.ptr 4 [] 27)) (.one 13 (.int .i64)))))), (.cons 0 (.lit (.agg [(.ints .u64 4 [6346243789798364141, 1503914060200516822, 0, 1152921504606846976]), (.ints .u64 4 [15486807595281847581, 14334777244411350896, 18446744073709551614, 1152921504606846975]), (.ints .u64 4 [11819153939886771969, 14991950615390032711, 14910419812499177061, 259310039853996605]), (.ints .u64 4 [6346243789798364139, 1503914060200516822, 0, 1152921504606846976])])) (.cons 1 (.ints .u64 4) (.cons 2 (.ints .u64 4) (.cons 3 (.lit (.ints .u64 4 [0, 0, 0, 0])) (.one 4 (.ints .u64 5))))))⟩
def scalar_product_l0_O : Fm ((Unit × Unit)) ((Unit × Unit × List Int)) := ⟨(.cons 4 (.lit (.ptr 3 [] 36)) (.one 5 (.lit (.ptr 4 [] 27)))), (.cons 0 (.lit (.agg [(.ints .u64 4 [6346243789798364141, 1503914060200516822, 0, 1152921504606846976]), (.ints .u64 4 [15486807595281847581, 14334777244411350896, 18446744073709551614, 1152921504606846975]), (.ints .u64 4 [11819153939886771969, 14991950615390032711, 14910419812499177061, 259310039853996605]), (.ints .u64 4 [6346243789798364139, 1503914060200516822, 0, 1152921504606846976])])) (.cons 3 (.lit (.ints .u64 4 [0, 0, 0, 0])) (.one 4 (.ints .u64 5))))⟩
def scalar_product_l0_T : Fm (Unit) (Unit) := ⟨.nil, .nil⟩
noncomputable def ls_scalar_product (N : Nat) : List (Nat × Lf) := [(0, loopCt scalar_product_l0_H scalar_product_l0_O scalar_product_l0_T 6 (scalar_product_l0 N) N)]
theorem scalar_product_l0_step (N : Nat) : ∀ v, exec Tryd.prog (cxOf Tryd.f40 (cs_scalar_product N) gs_scalar_product 0) (fun i => lkL i (ls_scalar_product N)) 100 none (loopBody Tryd.f40 0) (scalar_product_l0_H.st 6 v) (rdEnd scalar_product_l0_H scalar_product_l0_O scalar_product_l0_T 6 0) = scalar_product_l0 N v := by
  intro v; kernel_rfl
theorem r_scalar_product (N : Nat) : ∀ x, run Tryd.prog (fun g => lkG g (cs_scalar_product N)) (glAt gs_scalar_product 0) (gs_scalar_product.length + 0) (memAt gs_scalar_product 0 ++ (unc gs_scalar_product.length (Ag.mk ((.cons (.ints .u64 4) (.one (.ints .u64 4)))) x)).2) (fun i => lkL i (ls_scalar_product N)) 100 Tryd.f40 (unc gs_scalar_product.length (Ag.mk ((.cons (.ints .u64 4) (.one (.ints .u64 4)))) x)).1 none (Pt.get ((.ints .u64 4))) = scalar_product N x.1 x.2 := by
  intro x; kernel_rfl
theorem s_scalar_product {w0 : World} (N : Nat)  (h39 : SoundAt Tryd.prog w0 39 ct_scalar_lower) (h64 : SoundAt Tryd.prog w0 64 ct_bits_Add64) (h75 : SoundAt Tryd.prog w0 75 ct_scalar_into) (hg : GlobOK Tryd.prog w0 gs_scalar_product) : SoundAt Tryd.prog w0 40 (ct_scalar_product N) := by
  have hcs : ∀ x ∈ cs_scalar_product N, SoundAt Tryd.prog w0 x.1 x.2 := by
    intro x hx
    simp only [cs_scalar_product, List.mem_cons, List.not_mem_nil, or_false] at hx
    rcases hx with rfl | rfl | rfl
    · exact h39
    · exact h64
    · exact h75
  have L0 : ∀ w, RowKit.Below w0.heap.size w0 w → LoopOK Tryd.prog (cxOf Tryd.f40 (cs_scalar_product N) gs_scalar_product 0) w 0 (.loop (loopBody Tryd.f40 0)) (loopCt scalar_product_l0_H scalar_product_l0_O scalar_product_l0_T 6 (scalar_product_l0 N) N) :=
    loop_printed hcs (ls := ls_scalar_product N) (n := 100) (by kernel_rfl) (scalar_product_l0_step N) N fun w hw => loopsOK_list (by
      intro x hx
      simp only [ls_scalar_product, List.mem_cons, List.not_mem_nil, or_false] at hx
      rcases hx with rfl
      · exact .inl (by kernel_rfl)
    )
  exact fn_printed hcs hg Tryd.func40 (by kernel_rfl) (by kernel_rfl) (S := 0) (fun w hw => loopsOK_list (by
    intro x hx
    simp only [ls_scalar_product, List.mem_cons, List.not_mem_nil, or_false] at hx
    rcases hx with rfl
    · exact .inr ⟨_, by kernel_rfl, L0 w hw⟩
  )) (fun _ => rfl) (r_scalar_product N)
theorem k_scalar_product {w0 : World} (N : Nat)  (hg_scalar_lower : GlobOK Tryd.prog w0 gs_scalar_lower) (hg_scalar_product : GlobOK Tryd.prog w0 gs_scalar_product) : SoundAt Tryd.prog w0 40 (ct_scalar_product N) :=
  s_scalar_product N (k_scalar_lower hg_scalar_lower) (k_bits_Add64) (k_scalar_into) hg_scalar_product

def ct_scalar_Scalar_Add : Ct := fct (.cons (.ints .u64 4) (.one (.ints .u64 4))) (.ints .u64 4) fun x => scalar_Scalar_Add x.1 x.2
def cs_scalar_Scalar_Add : List (FuncId × Ct) := [(26, ct_scalar_Scalar_Least), (38, ct_scalar_plus), (39, ct_scalar_lower)]
def gs_scalar_Scalar_Add : List Gv := []
noncomputable def ls_scalar_Scalar_Add : List (Nat × Lf) := []
theorem r_scalar_Scalar_Add : ∀ x, run Tryd.prog (fun g => lkG g (cs_scalar_Scalar_Add)) (glAt gs_scalar_Scalar_Add 0) (gs_scalar_Scalar_Add.length + 0) (memAt gs_scalar_Scalar_Add 0 ++ (unc gs_scalar_Scalar_Add.length (Ag.mk ((.cons (.ints .u64 4) (.one (.ints .u64 4)))) x)).2) (fun i => lkL i (ls_scalar_Scalar_Add)) 100 Tryd.f13 (unc gs_scalar_Scalar_Add.length (Ag.mk ((.cons (.ints .u64 4) (.one (.ints .u64 4)))) x)).1 none (Pt.get ((.ints .u64 4))) = scalar_Scalar_Add x.1 x.2 := by
  intro x; kernel_rfl
theorem s_scalar_Scalar_Add {w0 : World}  (h26 : SoundAt Tryd.prog w0 26 ct_scalar_Scalar_Least) (h38 : SoundAt Tryd.prog w0 38 ct_scalar_plus) (h39 : SoundAt Tryd.prog w0 39 ct_scalar_lower) : SoundAt Tryd.prog w0 13 ct_scalar_Scalar_Add := by
  have hcs : ∀ x ∈ cs_scalar_Scalar_Add, SoundAt Tryd.prog w0 x.1 x.2 := by
    intro x hx
    simp only [cs_scalar_Scalar_Add, List.mem_cons, List.not_mem_nil, or_false] at hx
    rcases hx with rfl | rfl | rfl
    · exact h26
    · exact h38
    · exact h39
  exact fn_printed hcs (glob_nil _ _) Tryd.func13 (by kernel_rfl) (by kernel_rfl) (S := 0) (fun w _ => loopsOK_nil _) (fun _ => rfl) (r_scalar_Scalar_Add)
theorem k_scalar_Scalar_Add {w0 : World}  (hg_scalar_lower : GlobOK Tryd.prog w0 gs_scalar_lower) (hg_scalar_Scalar_Least : GlobOK Tryd.prog w0 gs_scalar_Scalar_Least) : SoundAt Tryd.prog w0 13 ct_scalar_Scalar_Add :=
  s_scalar_Scalar_Add (k_scalar_Scalar_Least hg_scalar_lower hg_scalar_Scalar_Least) (k_scalar_plus) (k_scalar_lower hg_scalar_lower)

def ct_scalar_Scalar_Sub : Ct := fct (.cons (.ints .u64 4) (.one (.ints .u64 4))) (.ints .u64 4) fun x => scalar_Scalar_Sub x.1 x.2
def cs_scalar_Scalar_Sub : List (FuncId × Ct) := [(26, ct_scalar_Scalar_Least), (38, ct_scalar_plus), (65, ct_scalar_minus), (66, ct_scalar_choose)]
def gs_scalar_Scalar_Sub : List Gv := [⟨0, 70, (.agg [(.ints .u64 4 [6346243789798364141, 1503914060200516822, 0, 1152921504606846976]), (.ints .u64 4 [15486807595281847581, 14334777244411350896, 18446744073709551614, 1152921504606846975]), (.ints .u64 4 [11819153939886771969, 14991950615390032711, 14910419812499177061, 259310039853996605]), (.ints .u64 4 [6346243789798364139, 1503914060200516822, 0, 1152921504606846976])])⟩]
noncomputable def ls_scalar_Scalar_Sub : List (Nat × Lf) := []
theorem r_scalar_Scalar_Sub : ∀ x, run Tryd.prog (fun g => lkG g (cs_scalar_Scalar_Sub)) (glAt gs_scalar_Scalar_Sub 0) (gs_scalar_Scalar_Sub.length + 0) (memAt gs_scalar_Scalar_Sub 0 ++ (unc gs_scalar_Scalar_Sub.length (Ag.mk ((.cons (.ints .u64 4) (.one (.ints .u64 4)))) x)).2) (fun i => lkL i (ls_scalar_Scalar_Sub)) 100 Tryd.f41 (unc gs_scalar_Scalar_Sub.length (Ag.mk ((.cons (.ints .u64 4) (.one (.ints .u64 4)))) x)).1 none (Pt.get ((.ints .u64 4))) = scalar_Scalar_Sub x.1 x.2 := by
  intro x; kernel_rfl
theorem s_scalar_Scalar_Sub {w0 : World}  (h26 : SoundAt Tryd.prog w0 26 ct_scalar_Scalar_Least) (h38 : SoundAt Tryd.prog w0 38 ct_scalar_plus) (h65 : SoundAt Tryd.prog w0 65 ct_scalar_minus) (h66 : SoundAt Tryd.prog w0 66 ct_scalar_choose) (hg : GlobOK Tryd.prog w0 gs_scalar_Scalar_Sub) : SoundAt Tryd.prog w0 41 ct_scalar_Scalar_Sub := by
  have hcs : ∀ x ∈ cs_scalar_Scalar_Sub, SoundAt Tryd.prog w0 x.1 x.2 := by
    intro x hx
    simp only [cs_scalar_Scalar_Sub, List.mem_cons, List.not_mem_nil, or_false] at hx
    rcases hx with rfl | rfl | rfl | rfl
    · exact h26
    · exact h38
    · exact h65
    · exact h66
  exact fn_printed hcs hg Tryd.func41 (by kernel_rfl) (by kernel_rfl) (S := 0) (fun w _ => loopsOK_nil _) (fun _ => rfl) (r_scalar_Scalar_Sub)
theorem k_scalar_Scalar_Sub {w0 : World}  (hg_scalar_lower : GlobOK Tryd.prog w0 gs_scalar_lower) (hg_scalar_Scalar_Least : GlobOK Tryd.prog w0 gs_scalar_Scalar_Least) (hg_scalar_Scalar_Sub : GlobOK Tryd.prog w0 gs_scalar_Scalar_Sub) : SoundAt Tryd.prog w0 41 ct_scalar_Scalar_Sub :=
  s_scalar_Scalar_Sub (k_scalar_Scalar_Least hg_scalar_lower hg_scalar_Scalar_Least) (k_scalar_plus) (k_scalar_minus) (k_scalar_choose) hg_scalar_Scalar_Sub

def ct_scalar_Scalar_Neg : Ct := fct (.one (.ints .u64 4)) (.ints .u64 4) fun x => scalar_Scalar_Neg x
def cs_scalar_Scalar_Neg : List (FuncId × Ct) := [(41, ct_scalar_Scalar_Sub)]
def gs_scalar_Scalar_Neg : List Gv := []
noncomputable def ls_scalar_Scalar_Neg : List (Nat × Lf) := []
theorem r_scalar_Scalar_Neg : ∀ x, run Tryd.prog (fun g => lkG g (cs_scalar_Scalar_Neg)) (glAt gs_scalar_Scalar_Neg 0) (gs_scalar_Scalar_Neg.length + 0) (memAt gs_scalar_Scalar_Neg 0 ++ (unc gs_scalar_Scalar_Neg.length (Ag.mk ((.one (.ints .u64 4))) x)).2) (fun i => lkL i (ls_scalar_Scalar_Neg)) 100 Tryd.f16 (unc gs_scalar_Scalar_Neg.length (Ag.mk ((.one (.ints .u64 4))) x)).1 none (Pt.get ((.ints .u64 4))) = scalar_Scalar_Neg x := by
  intro x; kernel_rfl
theorem s_scalar_Scalar_Neg {w0 : World}  (h41 : SoundAt Tryd.prog w0 41 ct_scalar_Scalar_Sub) : SoundAt Tryd.prog w0 16 ct_scalar_Scalar_Neg := by
  have hcs : ∀ x ∈ cs_scalar_Scalar_Neg, SoundAt Tryd.prog w0 x.1 x.2 := by
    intro x hx
    simp only [cs_scalar_Scalar_Neg, List.mem_cons, List.not_mem_nil, or_false] at hx
    rcases hx with rfl
    · exact h41
  exact fn_printed hcs (glob_nil _ _) Tryd.func16 (by kernel_rfl) (by kernel_rfl) (S := 0) (fun w _ => loopsOK_nil _) (fun _ => rfl) (r_scalar_Scalar_Neg)
theorem k_scalar_Scalar_Neg {w0 : World}  (hg_scalar_lower : GlobOK Tryd.prog w0 gs_scalar_lower) (hg_scalar_Scalar_Least : GlobOK Tryd.prog w0 gs_scalar_Scalar_Least) (hg_scalar_Scalar_Sub : GlobOK Tryd.prog w0 gs_scalar_Scalar_Sub) : SoundAt Tryd.prog w0 16 ct_scalar_Scalar_Neg :=
  s_scalar_Scalar_Neg (k_scalar_Scalar_Sub hg_scalar_lower hg_scalar_Scalar_Least hg_scalar_Scalar_Sub)

def ct_scalar_Scalar_Mul (N : Nat) : Ct := fct (.cons (.ints .u64 4) (.one (.ints .u64 4))) (.ints .u64 4) fun x => scalar_Scalar_Mul N x.1 x.2
def cs_scalar_Scalar_Mul (N : Nat) : List (FuncId × Ct) := [(26, ct_scalar_Scalar_Least), (40, (ct_scalar_product N))]
def gs_scalar_Scalar_Mul : List Gv := [⟨0, 70, (.agg [(.ints .u64 4 [6346243789798364141, 1503914060200516822, 0, 1152921504606846976]), (.ints .u64 4 [15486807595281847581, 14334777244411350896, 18446744073709551614, 1152921504606846975]), (.ints .u64 4 [11819153939886771969, 14991950615390032711, 14910419812499177061, 259310039853996605]), (.ints .u64 4 [6346243789798364139, 1503914060200516822, 0, 1152921504606846976])])⟩]
noncomputable def ls_scalar_Scalar_Mul (N : Nat) : List (Nat × Lf) := []
theorem r_scalar_Scalar_Mul (N : Nat) : ∀ x, run Tryd.prog (fun g => lkG g (cs_scalar_Scalar_Mul N)) (glAt gs_scalar_Scalar_Mul 0) (gs_scalar_Scalar_Mul.length + 0) (memAt gs_scalar_Scalar_Mul 0 ++ (unc gs_scalar_Scalar_Mul.length (Ag.mk ((.cons (.ints .u64 4) (.one (.ints .u64 4)))) x)).2) (fun i => lkL i (ls_scalar_Scalar_Mul N)) 100 Tryd.f14 (unc gs_scalar_Scalar_Mul.length (Ag.mk ((.cons (.ints .u64 4) (.one (.ints .u64 4)))) x)).1 none (Pt.get ((.ints .u64 4))) = scalar_Scalar_Mul N x.1 x.2 := by
  intro x; kernel_rfl
theorem s_scalar_Scalar_Mul {w0 : World} (N : Nat)  (h26 : SoundAt Tryd.prog w0 26 ct_scalar_Scalar_Least) (h40 : SoundAt Tryd.prog w0 40 (ct_scalar_product N)) (hg : GlobOK Tryd.prog w0 gs_scalar_Scalar_Mul) : SoundAt Tryd.prog w0 14 (ct_scalar_Scalar_Mul N) := by
  have hcs : ∀ x ∈ cs_scalar_Scalar_Mul N, SoundAt Tryd.prog w0 x.1 x.2 := by
    intro x hx
    simp only [cs_scalar_Scalar_Mul, List.mem_cons, List.not_mem_nil, or_false] at hx
    rcases hx with rfl | rfl
    · exact h26
    · exact h40
  exact fn_printed hcs hg Tryd.func14 (by kernel_rfl) (by kernel_rfl) (S := 0) (fun w _ => loopsOK_nil _) (fun _ => rfl) (r_scalar_Scalar_Mul N)
theorem k_scalar_Scalar_Mul {w0 : World} (N : Nat)  (hg_scalar_lower : GlobOK Tryd.prog w0 gs_scalar_lower) (hg_scalar_Scalar_Least : GlobOK Tryd.prog w0 gs_scalar_Scalar_Least) (hg_scalar_product : GlobOK Tryd.prog w0 gs_scalar_product) (hg_scalar_Scalar_Mul : GlobOK Tryd.prog w0 gs_scalar_Scalar_Mul) : SoundAt Tryd.prog w0 14 (ct_scalar_Scalar_Mul N) :=
  s_scalar_Scalar_Mul N (k_scalar_Scalar_Least hg_scalar_lower hg_scalar_Scalar_Least) (k_scalar_product N hg_scalar_lower hg_scalar_product) hg_scalar_Scalar_Mul

def ct_scalar_Int : Ct := tct (.one (.int .u64)) (.ints .u64 4) fun x => scalar_Int x
def cs_scalar_Int : List (FuncId × Ct) := []
def gs_scalar_Int : List Gv := []
noncomputable def ls_scalar_Int : List (Nat × Lf) := []
theorem r_scalar_Int : ∀ x, run Tryd.prog (fun g => lkG g (cs_scalar_Int)) (glAt gs_scalar_Int 0) (gs_scalar_Int.length + 0) (memAt gs_scalar_Int 0 ++ (unc gs_scalar_Int.length (Ag.mk ((.one (.int .u64))) x)).2) (fun i => lkL i (ls_scalar_Int)) 100 Tryd.f15 (unc gs_scalar_Int.length (Ag.mk ((.one (.int .u64))) x)).1 none (Pt.get ((.ints .u64 4))) = some (scalar_Int x) := by
  intro x; kernel_rfl
theorem s_scalar_Int {w0 : World}  : SoundAt Tryd.prog w0 15 ct_scalar_Int := by
  have hcs : ∀ x ∈ cs_scalar_Int, SoundAt Tryd.prog w0 x.1 x.2 := by
    intro x hx
    simp [cs_scalar_Int] at hx
  exact sound_tct (fn_printed hcs (glob_nil _ _) Tryd.func15 (by kernel_rfl) (by kernel_rfl) (S := 0) (fun w _ => loopsOK_nil _) (fun _ => rfl) (r_scalar_Int)) fun _ _ => rfl
theorem k_scalar_Int {w0 : World}  : SoundAt Tryd.prog w0 15 ct_scalar_Int :=
  s_scalar_Int

def ct_scalar_Scalar_Same : Ct := fct (.cons (.ints .u64 4) (.one (.ints .u64 4))) .bool fun x => scalar_Scalar_Same x.1 x.2
def cs_scalar_Scalar_Same : List (FuncId × Ct) := [(26, ct_scalar_Scalar_Least)]
def gs_scalar_Scalar_Same : List Gv := []
noncomputable def ls_scalar_Scalar_Same : List (Nat × Lf) := []
theorem r_scalar_Scalar_Same : ∀ x, run Tryd.prog (fun g => lkG g (cs_scalar_Scalar_Same)) (glAt gs_scalar_Scalar_Same 0) (gs_scalar_Scalar_Same.length + 0) (memAt gs_scalar_Scalar_Same 0 ++ (unc gs_scalar_Scalar_Same.length (Ag.mk ((.cons (.ints .u64 4) (.one (.ints .u64 4)))) x)).2) (fun i => lkL i (ls_scalar_Scalar_Same)) 100 Tryd.f19 (unc gs_scalar_Scalar_Same.length (Ag.mk ((.cons (.ints .u64 4) (.one (.ints .u64 4)))) x)).1 none (Pt.get (.bool)) = scalar_Scalar_Same x.1 x.2 := by
  intro x; kernel_rfl
theorem s_scalar_Scalar_Same {w0 : World}  (h26 : SoundAt Tryd.prog w0 26 ct_scalar_Scalar_Least) : SoundAt Tryd.prog w0 19 ct_scalar_Scalar_Same := by
  have hcs : ∀ x ∈ cs_scalar_Scalar_Same, SoundAt Tryd.prog w0 x.1 x.2 := by
    intro x hx
    simp only [cs_scalar_Scalar_Same, List.mem_cons, List.not_mem_nil, or_false] at hx
    rcases hx with rfl
    · exact h26
  exact fn_printed hcs (glob_nil _ _) Tryd.func19 (by kernel_rfl) (by kernel_rfl) (S := 0) (fun w _ => loopsOK_nil _) (fun _ => rfl) (r_scalar_Scalar_Same)
theorem k_scalar_Scalar_Same {w0 : World}  (hg_scalar_lower : GlobOK Tryd.prog w0 gs_scalar_lower) (hg_scalar_Scalar_Least : GlobOK Tryd.prog w0 gs_scalar_Scalar_Least) : SoundAt Tryd.prog w0 19 ct_scalar_Scalar_Same :=
  s_scalar_Scalar_Same (k_scalar_Scalar_Least hg_scalar_lower hg_scalar_Scalar_Least)

def ct_scalar_Scalar_IsZero : Ct := fct (.one (.ints .u64 4)) .bool fun x => scalar_Scalar_IsZero x
def cs_scalar_Scalar_IsZero : List (FuncId × Ct) := [(26, ct_scalar_Scalar_Least)]
def gs_scalar_Scalar_IsZero : List Gv := []
noncomputable def ls_scalar_Scalar_IsZero : List (Nat × Lf) := []
theorem r_scalar_Scalar_IsZero : ∀ x, run Tryd.prog (fun g => lkG g (cs_scalar_Scalar_IsZero)) (glAt gs_scalar_Scalar_IsZero 0) (gs_scalar_Scalar_IsZero.length + 0) (memAt gs_scalar_Scalar_IsZero 0 ++ (unc gs_scalar_Scalar_IsZero.length (Ag.mk ((.one (.ints .u64 4))) x)).2) (fun i => lkL i (ls_scalar_Scalar_IsZero)) 100 Tryd.f18 (unc gs_scalar_Scalar_IsZero.length (Ag.mk ((.one (.ints .u64 4))) x)).1 none (Pt.get (.bool)) = scalar_Scalar_IsZero x := by
  intro x; kernel_rfl
theorem s_scalar_Scalar_IsZero {w0 : World}  (h26 : SoundAt Tryd.prog w0 26 ct_scalar_Scalar_Least) : SoundAt Tryd.prog w0 18 ct_scalar_Scalar_IsZero := by
  have hcs : ∀ x ∈ cs_scalar_Scalar_IsZero, SoundAt Tryd.prog w0 x.1 x.2 := by
    intro x hx
    simp only [cs_scalar_Scalar_IsZero, List.mem_cons, List.not_mem_nil, or_false] at hx
    rcases hx with rfl
    · exact h26
  exact fn_printed hcs (glob_nil _ _) Tryd.func18 (by kernel_rfl) (by kernel_rfl) (S := 0) (fun w _ => loopsOK_nil _) (fun _ => rfl) (r_scalar_Scalar_IsZero)
theorem k_scalar_Scalar_IsZero {w0 : World}  (hg_scalar_lower : GlobOK Tryd.prog w0 gs_scalar_lower) (hg_scalar_Scalar_Least : GlobOK Tryd.prog w0 gs_scalar_Scalar_Least) : SoundAt Tryd.prog w0 18 ct_scalar_Scalar_IsZero :=
  s_scalar_Scalar_IsZero (k_scalar_Scalar_Least hg_scalar_lower hg_scalar_Scalar_Least)

def ct_group_pick : Ct := tct (.one .bool) (.int .i64) fun x => group_pick x
def cs_group_pick : List (FuncId × Ct) := []
def gs_group_pick : List Gv := []
noncomputable def ls_group_pick : List (Nat × Lf) := []
theorem r_group_pick : ∀ x, run Tryd.prog (fun g => lkG g (cs_group_pick)) (glAt gs_group_pick 0) (gs_group_pick.length + 0) (memAt gs_group_pick 0 ++ (unc gs_group_pick.length (Ag.mk ((.one .bool)) x)).2) (fun i => lkL i (ls_group_pick)) 100 Tryd.f55 (unc gs_group_pick.length (Ag.mk ((.one .bool)) x)).1 none (Pt.get ((.int .i64))) = group_pick_o x := by
  intro x; kernel_rfl
theorem s_group_pick {w0 : World}  : SoundAt Tryd.prog w0 55 ct_group_pick := by
  have hcs : ∀ x ∈ cs_group_pick, SoundAt Tryd.prog w0 x.1 x.2 := by
    intro x hx
    simp [cs_group_pick] at hx
  exact sound_tct (fn_printed hcs (glob_nil _ _) Tryd.func55 (by kernel_rfl) (by kernel_rfl) (S := 0) (fun w _ => loopsOK_nil _) (fun _ => rfl) (r_group_pick)) fun _ _ => group_pick_tot _
theorem k_group_pick {w0 : World}  : SoundAt Tryd.prog w0 55 ct_group_pick :=
  s_group_pick

def ct_group_Base : Ct := tct .nil (.agg (.one (.agg (.one (.agg (.cons (.ints .u64 5) (.cons (.ints .u64 5) (.cons (.ints .u64 5) (.one (.ints .u64 5)))))))))) fun x => group_Base
def cs_group_Base : List (FuncId × Ct) := [(68, ct_curve_Base)]
def gs_group_Base : List Gv := []
noncomputable def ls_group_Base : List (Nat × Lf) := []
theorem r_group_Base : ∀ x, run Tryd.prog (fun g => lkG g (cs_group_Base)) (glAt gs_group_Base 0) (gs_group_Base.length + 0) (memAt gs_group_Base 0 ++ (unc gs_group_Base.length (Ag.mk (.nil) x)).2) (fun i => lkL i (ls_group_Base)) 100 Tryd.f28 (unc gs_group_Base.length (Ag.mk (.nil) x)).1 none (Pt.get ((.agg (.one (.agg (.one (.agg (.cons (.ints .u64 5) (.cons (.ints .u64 5) (.cons (.ints .u64 5) (.one (.ints .u64 5)))))))))))) = some (group_Base) := by
  intro x; kernel_rfl
theorem s_group_Base {w0 : World}  (h68 : SoundAt Tryd.prog w0 68 ct_curve_Base) : SoundAt Tryd.prog w0 28 ct_group_Base := by
  have hcs : ∀ x ∈ cs_group_Base, SoundAt Tryd.prog w0 x.1 x.2 := by
    intro x hx
    simp only [cs_group_Base, List.mem_cons, List.not_mem_nil, or_false] at hx
    rcases hx with rfl
    · exact h68
  exact sound_tct (fn_printed hcs (glob_nil _ _) Tryd.func28 (by kernel_rfl) (by kernel_rfl) (S := 0) (fun w _ => loopsOK_nil _) (fun _ => rfl) (r_group_Base)) fun _ _ => rfl
theorem k_group_Base {w0 : World}  (hg_curve_Base : GlobOK Tryd.prog w0 gs_curve_Base) : SoundAt Tryd.prog w0 28 ct_group_Base :=
  s_group_Base (k_curve_Base hg_curve_Base)

def ct_group_Point_Encode (N : Nat) : Ct := fct (.one (.agg (.one (.agg (.one (.agg (.cons (.ints .u64 5) (.cons (.ints .u64 5) (.cons (.ints .u64 5) (.one (.ints .u64 5))))))))))) (.ints .u8 32) fun x => group_Point_Encode N x
def cs_group_Point_Encode (N : Nat) : List (FuncId × Ct) := [(25, ct_field_Elem_Neg), (47, ct_field_Elem_One), (48, ct_field_Const), (49, ct_field_Elem_Mul), (50, ct_field_Elem_Square), (51, ct_field_Elem_Add), (52, ct_field_Elem_Sub), (53, (ct_field_SqrtRatio N)), (54, ct_field_Select), (55, ct_group_pick), (56, ct_field_Elem_Abs), (59, (ct_curve_Point_Affine N)), (60, ct_field_Elem_Negative), (61, ct_field_Elem_Encode)]
def gs_group_Point_Encode : List Gv := []
noncomputable def ls_group_Point_Encode (N : Nat) : List (Nat × Lf) := []
theorem r_group_Point_Encode (N : Nat) : ∀ x, run Tryd.prog (fun g => lkG g (cs_group_Point_Encode N)) (glAt gs_group_Point_Encode 0) (gs_group_Point_Encode.length + 0) (memAt gs_group_Point_Encode 0 ++ (unc gs_group_Point_Encode.length (Ag.mk ((.one (.agg (.one (.agg (.one (.agg (.cons (.ints .u64 5) (.cons (.ints .u64 5) (.cons (.ints .u64 5) (.one (.ints .u64 5)))))))))))) x)).2) (fun i => lkL i (ls_group_Point_Encode N)) 100 Tryd.f23 (unc gs_group_Point_Encode.length (Ag.mk ((.one (.agg (.one (.agg (.one (.agg (.cons (.ints .u64 5) (.cons (.ints .u64 5) (.cons (.ints .u64 5) (.one (.ints .u64 5)))))))))))) x)).1 none (Pt.get ((.ints .u8 32))) = group_Point_Encode N x := by
  intro x; kernel_rfl
theorem s_group_Point_Encode {w0 : World} (N : Nat)  (h25 : SoundAt Tryd.prog w0 25 ct_field_Elem_Neg) (h47 : SoundAt Tryd.prog w0 47 ct_field_Elem_One) (h48 : SoundAt Tryd.prog w0 48 ct_field_Const) (h49 : SoundAt Tryd.prog w0 49 ct_field_Elem_Mul) (h50 : SoundAt Tryd.prog w0 50 ct_field_Elem_Square) (h51 : SoundAt Tryd.prog w0 51 ct_field_Elem_Add) (h52 : SoundAt Tryd.prog w0 52 ct_field_Elem_Sub) (h53 : SoundAt Tryd.prog w0 53 (ct_field_SqrtRatio N)) (h54 : SoundAt Tryd.prog w0 54 ct_field_Select) (h55 : SoundAt Tryd.prog w0 55 ct_group_pick) (h56 : SoundAt Tryd.prog w0 56 ct_field_Elem_Abs) (h59 : SoundAt Tryd.prog w0 59 (ct_curve_Point_Affine N)) (h60 : SoundAt Tryd.prog w0 60 ct_field_Elem_Negative) (h61 : SoundAt Tryd.prog w0 61 ct_field_Elem_Encode) : SoundAt Tryd.prog w0 23 (ct_group_Point_Encode N) := by
  have hcs : ∀ x ∈ cs_group_Point_Encode N, SoundAt Tryd.prog w0 x.1 x.2 := by
    intro x hx
    simp only [cs_group_Point_Encode, List.mem_cons, List.not_mem_nil, or_false] at hx
    rcases hx with rfl | rfl | rfl | rfl | rfl | rfl | rfl | rfl | rfl | rfl | rfl | rfl | rfl | rfl
    · exact h25
    · exact h47
    · exact h48
    · exact h49
    · exact h50
    · exact h51
    · exact h52
    · exact h53
    · exact h54
    · exact h55
    · exact h56
    · exact h59
    · exact h60
    · exact h61
  exact fn_printed hcs (glob_nil _ _) Tryd.func23 (by kernel_rfl) (by kernel_rfl) (S := 0) (fun w _ => loopsOK_nil _) (fun _ => rfl) (r_group_Point_Encode N)
theorem k_group_Point_Encode {w0 : World} (N : Nat)  (hg_field_Const : GlobOK Tryd.prog w0 gs_field_Const) (hg_field_SqrtRatio : GlobOK Tryd.prog w0 gs_field_SqrtRatio) (hg_curve_place_whole : GlobOK Tryd.prog w0 gs_curve_place_whole) : SoundAt Tryd.prog w0 23 (ct_group_Point_Encode N) :=
  s_group_Point_Encode N (k_field_Elem_Neg) (k_field_Elem_One) (k_field_Const hg_field_Const) (k_field_Elem_Mul) (k_field_Elem_Square) (k_field_Elem_Add) (k_field_Elem_Sub) (k_field_SqrtRatio N hg_field_SqrtRatio) (k_field_Select) (k_group_pick) (k_field_Elem_Abs) (k_curve_Point_Affine N hg_curve_place_whole) (k_field_Elem_Negative) (k_field_Elem_Encode)

def ct_group_MapHalf (N : Nat) : Ct := fct (.one (.ints .u64 5)) (.agg (.one (.agg (.one (.agg (.cons (.ints .u64 5) (.cons (.ints .u64 5) (.cons (.ints .u64 5) (.one (.ints .u64 5)))))))))) fun x => group_MapHalf N x
def cs_group_MapHalf (N : Nat) : List (FuncId × Ct) := [(25, ct_field_Elem_Neg), (47, ct_field_Elem_One), (48, ct_field_Const), (49, ct_field_Elem_Mul), (50, ct_field_Elem_Square), (51, ct_field_Elem_Add), (52, ct_field_Elem_Sub), (53, (ct_field_SqrtRatio N)), (54, ct_field_Select), (55, ct_group_pick), (56, ct_field_Elem_Abs), (57, (ct_field_Elem_Invert N)), (58, ct_curve_FromAffine)]
def gs_group_MapHalf : List Gv := []
noncomputable def ls_group_MapHalf (N : Nat) : List (Nat × Lf) := []
theorem r_group_MapHalf (N : Nat) : ∀ x, run Tryd.prog (fun g => lkG g (cs_group_MapHalf N)) (glAt gs_group_MapHalf 0) (gs_group_MapHalf.length + 0) (memAt gs_group_MapHalf 0 ++ (unc gs_group_MapHalf.length (Ag.mk ((.one (.ints .u64 5))) x)).2) (fun i => lkL i (ls_group_MapHalf N)) 100 Tryd.f22 (unc gs_group_MapHalf.length (Ag.mk ((.one (.ints .u64 5))) x)).1 none (Pt.get ((.agg (.one (.agg (.one (.agg (.cons (.ints .u64 5) (.cons (.ints .u64 5) (.cons (.ints .u64 5) (.one (.ints .u64 5)))))))))))) = group_MapHalf N x := by
  intro x; kernel_rfl
theorem s_group_MapHalf {w0 : World} (N : Nat)  (h25 : SoundAt Tryd.prog w0 25 ct_field_Elem_Neg) (h47 : SoundAt Tryd.prog w0 47 ct_field_Elem_One) (h48 : SoundAt Tryd.prog w0 48 ct_field_Const) (h49 : SoundAt Tryd.prog w0 49 ct_field_Elem_Mul) (h50 : SoundAt Tryd.prog w0 50 ct_field_Elem_Square) (h51 : SoundAt Tryd.prog w0 51 ct_field_Elem_Add) (h52 : SoundAt Tryd.prog w0 52 ct_field_Elem_Sub) (h53 : SoundAt Tryd.prog w0 53 (ct_field_SqrtRatio N)) (h54 : SoundAt Tryd.prog w0 54 ct_field_Select) (h55 : SoundAt Tryd.prog w0 55 ct_group_pick) (h56 : SoundAt Tryd.prog w0 56 ct_field_Elem_Abs) (h57 : SoundAt Tryd.prog w0 57 (ct_field_Elem_Invert N)) (h58 : SoundAt Tryd.prog w0 58 ct_curve_FromAffine) : SoundAt Tryd.prog w0 22 (ct_group_MapHalf N) := by
  have hcs : ∀ x ∈ cs_group_MapHalf N, SoundAt Tryd.prog w0 x.1 x.2 := by
    intro x hx
    simp only [cs_group_MapHalf, List.mem_cons, List.not_mem_nil, or_false] at hx
    rcases hx with rfl | rfl | rfl | rfl | rfl | rfl | rfl | rfl | rfl | rfl | rfl | rfl | rfl
    · exact h25
    · exact h47
    · exact h48
    · exact h49
    · exact h50
    · exact h51
    · exact h52
    · exact h53
    · exact h54
    · exact h55
    · exact h56
    · exact h57
    · exact h58
  exact fn_printed hcs (glob_nil _ _) Tryd.func22 (by kernel_rfl) (by kernel_rfl) (S := 0) (fun w _ => loopsOK_nil _) (fun _ => rfl) (r_group_MapHalf N)
theorem k_group_MapHalf {w0 : World} (N : Nat)  (hg_field_Const : GlobOK Tryd.prog w0 gs_field_Const) (hg_field_SqrtRatio : GlobOK Tryd.prog w0 gs_field_SqrtRatio) (hg_curve_at : GlobOK Tryd.prog w0 gs_curve_at) (hg_curve_FromAffine : GlobOK Tryd.prog w0 gs_curve_FromAffine) : SoundAt Tryd.prog w0 22 (ct_group_MapHalf N) :=
  s_group_MapHalf N (k_field_Elem_Neg) (k_field_Elem_One) (k_field_Const hg_field_Const) (k_field_Elem_Mul) (k_field_Elem_Square) (k_field_Elem_Add) (k_field_Elem_Sub) (k_field_SqrtRatio N hg_field_SqrtRatio) (k_field_Select) (k_group_pick) (k_field_Elem_Abs) (k_field_Elem_Invert N) (k_curve_FromAffine hg_field_Const hg_curve_at hg_curve_FromAffine)

def ct_group_Point_Add : Ct := fct (.cons (.agg (.one (.agg (.one (.agg (.cons (.ints .u64 5) (.cons (.ints .u64 5) (.cons (.ints .u64 5) (.one (.ints .u64 5)))))))))) (.one (.agg (.one (.agg (.one (.agg (.cons (.ints .u64 5) (.cons (.ints .u64 5) (.cons (.ints .u64 5) (.one (.ints .u64 5)))))))))))) (.agg (.one (.agg (.one (.agg (.cons (.ints .u64 5) (.cons (.ints .u64 5) (.cons (.ints .u64 5) (.one (.ints .u64 5)))))))))) fun x => group_Point_Add x.1 x.2
def cs_group_Point_Add : List (FuncId × Ct) := [(30, ct_curve_Point_Add)]
def gs_group_Point_Add : List Gv := []
noncomputable def ls_group_Point_Add : List (Nat × Lf) := []
theorem r_group_Point_Add : ∀ x, run Tryd.prog (fun g => lkG g (cs_group_Point_Add)) (glAt gs_group_Point_Add 0) (gs_group_Point_Add.length + 0) (memAt gs_group_Point_Add 0 ++ (unc gs_group_Point_Add.length (Ag.mk ((.cons (.agg (.one (.agg (.one (.agg (.cons (.ints .u64 5) (.cons (.ints .u64 5) (.cons (.ints .u64 5) (.one (.ints .u64 5)))))))))) (.one (.agg (.one (.agg (.one (.agg (.cons (.ints .u64 5) (.cons (.ints .u64 5) (.cons (.ints .u64 5) (.one (.ints .u64 5))))))))))))) x)).2) (fun i => lkL i (ls_group_Point_Add)) 100 Tryd.f8 (unc gs_group_Point_Add.length (Ag.mk ((.cons (.agg (.one (.agg (.one (.agg (.cons (.ints .u64 5) (.cons (.ints .u64 5) (.cons (.ints .u64 5) (.one (.ints .u64 5)))))))))) (.one (.agg (.one (.agg (.one (.agg (.cons (.ints .u64 5) (.cons (.ints .u64 5) (.cons (.ints .u64 5) (.one (.ints .u64 5))))))))))))) x)).1 none (Pt.get ((.agg (.one (.agg (.one (.agg (.cons (.ints .u64 5) (.cons (.ints .u64 5) (.cons (.ints .u64 5) (.one (.ints .u64 5)))))))))))) = group_Point_Add x.1 x.2 := by
  intro x; kernel_rfl
theorem s_group_Point_Add {w0 : World}  (h30 : SoundAt Tryd.prog w0 30 ct_curve_Point_Add) : SoundAt Tryd.prog w0 8 ct_group_Point_Add := by
  have hcs : ∀ x ∈ cs_group_Point_Add, SoundAt Tryd.prog w0 x.1 x.2 := by
    intro x hx
    simp only [cs_group_Point_Add, List.mem_cons, List.not_mem_nil, or_false] at hx
    rcases hx with rfl
    · exact h30
  exact fn_printed hcs (glob_nil _ _) Tryd.func8 (by kernel_rfl) (by kernel_rfl) (S := 0) (fun w _ => loopsOK_nil _) (fun _ => rfl) (r_group_Point_Add)
theorem k_group_Point_Add {w0 : World}  (hg_curve_place_whole : GlobOK Tryd.prog w0 gs_curve_place_whole) (hg_curve_Point_Add : GlobOK Tryd.prog w0 gs_curve_Point_Add) : SoundAt Tryd.prog w0 8 ct_group_Point_Add :=
  s_group_Point_Add (k_curve_Point_Add hg_curve_place_whole hg_curve_Point_Add)

def ct_group_Map (N : Nat) : Ct := fct (.one (.ints .u8 64)) (.agg (.one (.agg (.one (.agg (.cons (.ints .u64 5) (.cons (.ints .u64 5) (.cons (.ints .u64 5) (.one (.ints .u64 5)))))))))) fun x => group_Map N x
def cs_group_Map (N : Nat) : List (FuncId × Ct) := [(8, ct_group_Point_Add), (22, (ct_group_MapHalf N)), (34, ct_field_Reduce)]
def gs_group_Map : List Gv := []
noncomputable def ls_group_Map (N : Nat) : List (Nat × Lf) := []
theorem r_group_Map (N : Nat) : ∀ x, run Tryd.prog (fun g => lkG g (cs_group_Map N)) (glAt gs_group_Map 0) (gs_group_Map.length + 0) (memAt gs_group_Map 0 ++ (unc gs_group_Map.length (Ag.mk ((.one (.ints .u8 64))) x)).2) (fun i => lkL i (ls_group_Map N)) 100 Tryd.f7 (unc gs_group_Map.length (Ag.mk ((.one (.ints .u8 64))) x)).1 none (Pt.get ((.agg (.one (.agg (.one (.agg (.cons (.ints .u64 5) (.cons (.ints .u64 5) (.cons (.ints .u64 5) (.one (.ints .u64 5)))))))))))) = group_Map N x := by
  intro x; kernel_rfl
theorem s_group_Map {w0 : World} (N : Nat)  (h8 : SoundAt Tryd.prog w0 8 ct_group_Point_Add) (h22 : SoundAt Tryd.prog w0 22 (ct_group_MapHalf N)) (h34 : SoundAt Tryd.prog w0 34 ct_field_Reduce) : SoundAt Tryd.prog w0 7 (ct_group_Map N) := by
  have hcs : ∀ x ∈ cs_group_Map N, SoundAt Tryd.prog w0 x.1 x.2 := by
    intro x hx
    simp only [cs_group_Map, List.mem_cons, List.not_mem_nil, or_false] at hx
    rcases hx with rfl | rfl | rfl
    · exact h8
    · exact h22
    · exact h34
  exact fn_printed hcs (glob_nil _ _) Tryd.func7 (by kernel_rfl) (by kernel_rfl) (S := 0) (fun w _ => loopsOK_nil _) (fun _ => rfl) (r_group_Map N)
theorem k_group_Map {w0 : World} (N : Nat)  (hg_curve_place_whole : GlobOK Tryd.prog w0 gs_curve_place_whole) (hg_curve_Point_Add : GlobOK Tryd.prog w0 gs_curve_Point_Add) (hg_field_Const : GlobOK Tryd.prog w0 gs_field_Const) (hg_field_SqrtRatio : GlobOK Tryd.prog w0 gs_field_SqrtRatio) (hg_curve_at : GlobOK Tryd.prog w0 gs_curve_at) (hg_curve_FromAffine : GlobOK Tryd.prog w0 gs_curve_FromAffine) : SoundAt Tryd.prog w0 7 (ct_group_Map N) :=
  s_group_Map N (k_group_Point_Add hg_curve_place_whole hg_curve_Point_Add) (k_group_MapHalf N hg_field_Const hg_field_SqrtRatio hg_curve_at hg_curve_FromAffine) (k_field_Reduce)

def ct_group_Point_Neg : Ct := tct (.one (.agg (.one (.agg (.one (.agg (.cons (.ints .u64 5) (.cons (.ints .u64 5) (.cons (.ints .u64 5) (.one (.ints .u64 5))))))))))) (.agg (.one (.agg (.one (.agg (.cons (.ints .u64 5) (.cons (.ints .u64 5) (.cons (.ints .u64 5) (.one (.ints .u64 5)))))))))) fun x => group_Point_Neg x
def cs_group_Point_Neg : List (FuncId × Ct) := [(35, ct_curve_Point_Neg)]
def gs_group_Point_Neg : List Gv := []
noncomputable def ls_group_Point_Neg : List (Nat × Lf) := []
theorem r_group_Point_Neg : ∀ x, run Tryd.prog (fun g => lkG g (cs_group_Point_Neg)) (glAt gs_group_Point_Neg 0) (gs_group_Point_Neg.length + 0) (memAt gs_group_Point_Neg 0 ++ (unc gs_group_Point_Neg.length (Ag.mk ((.one (.agg (.one (.agg (.one (.agg (.cons (.ints .u64 5) (.cons (.ints .u64 5) (.cons (.ints .u64 5) (.one (.ints .u64 5)))))))))))) x)).2) (fun i => lkL i (ls_group_Point_Neg)) 100 Tryd.f10 (unc gs_group_Point_Neg.length (Ag.mk ((.one (.agg (.one (.agg (.one (.agg (.cons (.ints .u64 5) (.cons (.ints .u64 5) (.cons (.ints .u64 5) (.one (.ints .u64 5)))))))))))) x)).1 none (Pt.get ((.agg (.one (.agg (.one (.agg (.cons (.ints .u64 5) (.cons (.ints .u64 5) (.cons (.ints .u64 5) (.one (.ints .u64 5)))))))))))) = some (group_Point_Neg x) := by
  intro x; kernel_rfl
theorem s_group_Point_Neg {w0 : World}  (h35 : SoundAt Tryd.prog w0 35 ct_curve_Point_Neg) : SoundAt Tryd.prog w0 10 ct_group_Point_Neg := by
  have hcs : ∀ x ∈ cs_group_Point_Neg, SoundAt Tryd.prog w0 x.1 x.2 := by
    intro x hx
    simp only [cs_group_Point_Neg, List.mem_cons, List.not_mem_nil, or_false] at hx
    rcases hx with rfl
    · exact h35
  exact sound_tct (fn_printed hcs (glob_nil _ _) Tryd.func10 (by kernel_rfl) (by kernel_rfl) (S := 0) (fun w _ => loopsOK_nil _) (fun _ => rfl) (r_group_Point_Neg)) fun _ _ => rfl
theorem k_group_Point_Neg {w0 : World}  (hg_curve_place_whole : GlobOK Tryd.prog w0 gs_curve_place_whole) : SoundAt Tryd.prog w0 10 ct_group_Point_Neg :=
  s_group_Point_Neg (k_curve_Point_Neg hg_curve_place_whole)

def ct_group_Point_Double : Ct := fct (.one (.agg (.one (.agg (.one (.agg (.cons (.ints .u64 5) (.cons (.ints .u64 5) (.cons (.ints .u64 5) (.one (.ints .u64 5))))))))))) (.agg (.one (.agg (.one (.agg (.cons (.ints .u64 5) (.cons (.ints .u64 5) (.cons (.ints .u64 5) (.one (.ints .u64 5)))))))))) fun x => group_Point_Double x
def cs_group_Point_Double : List (FuncId × Ct) := [(33, ct_curve_Point_Double)]
def gs_group_Point_Double : List Gv := []
noncomputable def ls_group_Point_Double : List (Nat × Lf) := []
theorem r_group_Point_Double : ∀ x, run Tryd.prog (fun g => lkG g (cs_group_Point_Double)) (glAt gs_group_Point_Double 0) (gs_group_Point_Double.length + 0) (memAt gs_group_Point_Double 0 ++ (unc gs_group_Point_Double.length (Ag.mk ((.one (.agg (.one (.agg (.one (.agg (.cons (.ints .u64 5) (.cons (.ints .u64 5) (.cons (.ints .u64 5) (.one (.ints .u64 5)))))))))))) x)).2) (fun i => lkL i (ls_group_Point_Double)) 100 Tryd.f11 (unc gs_group_Point_Double.length (Ag.mk ((.one (.agg (.one (.agg (.one (.agg (.cons (.ints .u64 5) (.cons (.ints .u64 5) (.cons (.ints .u64 5) (.one (.ints .u64 5)))))))))))) x)).1 none (Pt.get ((.agg (.one (.agg (.one (.agg (.cons (.ints .u64 5) (.cons (.ints .u64 5) (.cons (.ints .u64 5) (.one (.ints .u64 5)))))))))))) = group_Point_Double x := by
  intro x; kernel_rfl
theorem s_group_Point_Double {w0 : World}  (h33 : SoundAt Tryd.prog w0 33 ct_curve_Point_Double) : SoundAt Tryd.prog w0 11 ct_group_Point_Double := by
  have hcs : ∀ x ∈ cs_group_Point_Double, SoundAt Tryd.prog w0 x.1 x.2 := by
    intro x hx
    simp only [cs_group_Point_Double, List.mem_cons, List.not_mem_nil, or_false] at hx
    rcases hx with rfl
    · exact h33
  exact fn_printed hcs (glob_nil _ _) Tryd.func11 (by kernel_rfl) (by kernel_rfl) (S := 0) (fun w _ => loopsOK_nil _) (fun _ => rfl) (r_group_Point_Double)
theorem k_group_Point_Double {w0 : World}  (hg_curve_place_whole : GlobOK Tryd.prog w0 gs_curve_place_whole) : SoundAt Tryd.prog w0 11 ct_group_Point_Double :=
  s_group_Point_Double (k_curve_Point_Double hg_curve_place_whole)

def ct_group_low : Ct := tct (.one (.ints .u64 4)) .bool fun x => group_low x
def cs_group_low : List (FuncId × Ct) := []
def gs_group_low : List Gv := []
noncomputable def ls_group_low : List (Nat × Lf) := []
theorem r_group_low : ∀ x, run Tryd.prog (fun g => lkG g (cs_group_low)) (glAt gs_group_low 0) (gs_group_low.length + 0) (memAt gs_group_low 0 ++ (unc gs_group_low.length (Ag.mk ((.one (.ints .u64 4))) x)).2) (fun i => lkL i (ls_group_low)) 100 Tryd.f36 (unc gs_group_low.length (Ag.mk ((.one (.ints .u64 4))) x)).1 none (Pt.get (.bool)) = some (group_low x) := by
  intro x; kernel_rfl
theorem s_group_low {w0 : World}  : SoundAt Tryd.prog w0 36 ct_group_low := by
  have hcs : ∀ x ∈ cs_group_low, SoundAt Tryd.prog w0 x.1 x.2 := by
    intro x hx
    simp [cs_group_low] at hx
  exact sound_tct (fn_printed hcs (glob_nil _ _) Tryd.func36 (by kernel_rfl) (by kernel_rfl) (S := 0) (fun w _ => loopsOK_nil _) (fun _ => rfl) (r_group_low)) fun _ _ => rfl
theorem k_group_low {w0 : World}  : SoundAt Tryd.prog w0 36 ct_group_low :=
  s_group_low

def ct_group_Point_Times (N : Nat) : Ct := fct (.cons (.agg (.one (.agg (.one (.agg (.cons (.ints .u64 5) (.cons (.ints .u64 5) (.cons (.ints .u64 5) (.one (.ints .u64 5)))))))))) (.one (.ints .u64 4))) (.agg (.one (.agg (.one (.agg (.cons (.ints .u64 5) (.cons (.ints .u64 5) (.cons (.ints .u64 5) (.one (.ints .u64 5)))))))))) fun x => group_Point_Times N x.1 x.2
def cs_group_Point_Times (N : Nat) : List (FuncId × Ct) := [(16, ct_scalar_Scalar_Neg), (26, ct_scalar_Scalar_Least), (35, ct_curve_Point_Neg), (36, ct_group_low), (37, (ct_curve_Point_Times N))]
def gs_group_Point_Times : List Gv := []
noncomputable def ls_group_Point_Times (N : Nat) : List (Nat × Lf) := []
theorem r_group_Point_Times (N : Nat) : ∀ x, run Tryd.prog (fun g => lkG g (cs_group_Point_Times N)) (glAt gs_group_Point_Times 0) (gs_group_Point_Times.length + 0) (memAt gs_group_Point_Times 0 ++ (unc gs_group_Point_Times.length (Ag.mk ((.cons (.agg (.one (.agg (.one (.agg (.cons (.ints .u64 5) (.cons (.ints .u64 5) (.cons (.ints .u64 5) (.one (.ints .u64 5)))))))))) (.one (.ints .u64 4)))) x)).2) (fun i => lkL i (ls_group_Point_Times N)) 100 Tryd.f12 (unc gs_group_Point_Times.length (Ag.mk ((.cons (.agg (.one (.agg (.one (.agg (.cons (.ints .u64 5) (.cons (.ints .u64 5) (.cons (.ints .u64 5) (.one (.ints .u64 5)))))))))) (.one (.ints .u64 4)))) x)).1 none (Pt.get ((.agg (.one (.agg (.one (.agg (.cons (.ints .u64 5) (.cons (.ints .u64 5) (.cons (.ints .u64 5) (.one (.ints .u64 5)))))))))))) = group_Point_Times N x.1 x.2 := by
  intro x; kernel_rfl
theorem s_group_Point_Times {w0 : World} (N : Nat)  (h16 : SoundAt Tryd.prog w0 16 ct_scalar_Scalar_Neg) (h26 : SoundAt Tryd.prog w0 26 ct_scalar_Scalar_Least) (h35 : SoundAt Tryd.prog w0 35 ct_curve_Point_Neg) (h36 : SoundAt Tryd.prog w0 36 ct_group_low) (h37 : SoundAt Tryd.prog w0 37 (ct_curve_Point_Times N)) : SoundAt Tryd.prog w0 12 (ct_group_Point_Times N) := by
  have hcs : ∀ x ∈ cs_group_Point_Times N, SoundAt Tryd.prog w0 x.1 x.2 := by
    intro x hx
    simp only [cs_group_Point_Times, List.mem_cons, List.not_mem_nil, or_false] at hx
    rcases hx with rfl | rfl | rfl | rfl | rfl
    · exact h16
    · exact h26
    · exact h35
    · exact h36
    · exact h37
  exact fn_printed hcs (glob_nil _ _) Tryd.func12 (by kernel_rfl) (by kernel_rfl) (S := 0) (fun w _ => loopsOK_nil _) (fun _ => rfl) (r_group_Point_Times N)
theorem k_group_Point_Times {w0 : World} (N : Nat)  (hg_scalar_lower : GlobOK Tryd.prog w0 gs_scalar_lower) (hg_scalar_Scalar_Least : GlobOK Tryd.prog w0 gs_scalar_Scalar_Least) (hg_scalar_Scalar_Sub : GlobOK Tryd.prog w0 gs_scalar_Scalar_Sub) (hg_curve_place_whole : GlobOK Tryd.prog w0 gs_curve_place_whole) (hg_curve_Point_Add : GlobOK Tryd.prog w0 gs_curve_Point_Add) : SoundAt Tryd.prog w0 12 (ct_group_Point_Times N) :=
  s_group_Point_Times N (k_scalar_Scalar_Neg hg_scalar_lower hg_scalar_Scalar_Least hg_scalar_Scalar_Sub) (k_scalar_Scalar_Least hg_scalar_lower hg_scalar_Scalar_Least) (k_curve_Point_Neg hg_curve_place_whole) (k_group_low) (k_curve_Point_Times N hg_curve_place_whole hg_curve_Point_Add hg_scalar_lower hg_scalar_Scalar_Least)

def ct_group_Point_Same : Ct := fct (.cons (.agg (.one (.agg (.one (.agg (.cons (.ints .u64 5) (.cons (.ints .u64 5) (.cons (.ints .u64 5) (.one (.ints .u64 5)))))))))) (.one (.agg (.one (.agg (.one (.agg (.cons (.ints .u64 5) (.cons (.ints .u64 5) (.cons (.ints .u64 5) (.one (.ints .u64 5)))))))))))) .bool fun x => group_Point_Same x.1 x.2
def cs_group_Point_Same : List (FuncId × Ct) := [(27, ct_curve_Point_Same), (32, ct_curve_Point_Sub), (33, ct_curve_Point_Double)]
def gs_group_Point_Same : List Gv := []
noncomputable def ls_group_Point_Same : List (Nat × Lf) := []
theorem r_group_Point_Same : ∀ x, run Tryd.prog (fun g => lkG g (cs_group_Point_Same)) (glAt gs_group_Point_Same 0) (gs_group_Point_Same.length + 0) (memAt gs_group_Point_Same 0 ++ (unc gs_group_Point_Same.length (Ag.mk ((.cons (.agg (.one (.agg (.one (.agg (.cons (.ints .u64 5) (.cons (.ints .u64 5) (.cons (.ints .u64 5) (.one (.ints .u64 5)))))))))) (.one (.agg (.one (.agg (.one (.agg (.cons (.ints .u64 5) (.cons (.ints .u64 5) (.cons (.ints .u64 5) (.one (.ints .u64 5))))))))))))) x)).2) (fun i => lkL i (ls_group_Point_Same)) 100 Tryd.f9 (unc gs_group_Point_Same.length (Ag.mk ((.cons (.agg (.one (.agg (.one (.agg (.cons (.ints .u64 5) (.cons (.ints .u64 5) (.cons (.ints .u64 5) (.one (.ints .u64 5)))))))))) (.one (.agg (.one (.agg (.one (.agg (.cons (.ints .u64 5) (.cons (.ints .u64 5) (.cons (.ints .u64 5) (.one (.ints .u64 5))))))))))))) x)).1 none (Pt.get (.bool)) = group_Point_Same x.1 x.2 := by
  intro x; kernel_rfl
theorem s_group_Point_Same {w0 : World}  (h27 : SoundAt Tryd.prog w0 27 ct_curve_Point_Same) (h32 : SoundAt Tryd.prog w0 32 ct_curve_Point_Sub) (h33 : SoundAt Tryd.prog w0 33 ct_curve_Point_Double) : SoundAt Tryd.prog w0 9 ct_group_Point_Same := by
  have hcs : ∀ x ∈ cs_group_Point_Same, SoundAt Tryd.prog w0 x.1 x.2 := by
    intro x hx
    simp only [cs_group_Point_Same, List.mem_cons, List.not_mem_nil, or_false] at hx
    rcases hx with rfl | rfl | rfl
    · exact h27
    · exact h32
    · exact h33
  exact fn_printed hcs (glob_nil _ _) Tryd.func9 (by kernel_rfl) (by kernel_rfl) (S := 0) (fun w _ => loopsOK_nil _) (fun _ => rfl) (r_group_Point_Same)
theorem k_group_Point_Same {w0 : World}  (hg_curve_place_whole : GlobOK Tryd.prog w0 gs_curve_place_whole) (hg_curve_Point_Add : GlobOK Tryd.prog w0 gs_curve_Point_Add) : SoundAt Tryd.prog w0 9 ct_group_Point_Same :=
  s_group_Point_Same (k_curve_Point_Same hg_curve_place_whole) (k_curve_Point_Sub hg_curve_place_whole hg_curve_Point_Add) (k_curve_Point_Double hg_curve_place_whole)

def ct_group_Sum_4 : Ct := fct (.one (.tup (.cons (.agg (.cons (.agg (.one (.agg (.one (.agg (.cons (.ints .u64 5) (.cons (.ints .u64 5) (.cons (.ints .u64 5) (.one (.ints .u64 5)))))))))) (.cons (.agg (.one (.agg (.one (.agg (.cons (.ints .u64 5) (.cons (.ints .u64 5) (.cons (.ints .u64 5) (.one (.ints .u64 5)))))))))) (.cons (.agg (.one (.agg (.one (.agg (.cons (.ints .u64 5) (.cons (.ints .u64 5) (.cons (.ints .u64 5) (.one (.ints .u64 5)))))))))) (.one (.agg (.one (.agg (.one (.agg (.cons (.ints .u64 5) (.cons (.ints .u64 5) (.cons (.ints .u64 5) (.one (.ints .u64 5))))))))))))))) (.one (.lit (.clo 34 [])))))) (.agg (.one (.agg (.one (.agg (.cons (.ints .u64 5) (.cons (.ints .u64 5) (.cons (.ints .u64 5) (.one (.ints .u64 5)))))))))) fun x => group_Sum_4 x
def cs_group_Sum_4 : List (FuncId × Ct) := [(8, ct_group_Point_Add)]
def gs_group_Sum_4 : List Gv := []
noncomputable def ls_group_Sum_4 : List (Nat × Lf) := []
theorem r_group_Sum_4 : ∀ x, run Tryd.prog (fun g => lkG g (cs_group_Sum_4)) (glAt gs_group_Sum_4 0) (gs_group_Sum_4.length + 1) (memAt gs_group_Sum_4 0 ++ (unc gs_group_Sum_4.length (Ag.mk ((.one (.tup (.cons (.agg (.cons (.agg (.one (.agg (.one (.agg (.cons (.ints .u64 5) (.cons (.ints .u64 5) (.cons (.ints .u64 5) (.one (.ints .u64 5)))))))))) (.cons (.agg (.one (.agg (.one (.agg (.cons (.ints .u64 5) (.cons (.ints .u64 5) (.cons (.ints .u64 5) (.one (.ints .u64 5)))))))))) (.cons (.agg (.one (.agg (.one (.agg (.cons (.ints .u64 5) (.cons (.ints .u64 5) (.cons (.ints .u64 5) (.one (.ints .u64 5)))))))))) (.one (.agg (.one (.agg (.one (.agg (.cons (.ints .u64 5) (.cons (.ints .u64 5) (.cons (.ints .u64 5) (.one (.ints .u64 5))))))))))))))) (.one (.lit (.clo 34 []))))))) x)).2) (fun i => lkL i (ls_group_Sum_4)) 100 Tryd.f17 (unc gs_group_Sum_4.length (Ag.mk ((.one (.tup (.cons (.agg (.cons (.agg (.one (.agg (.one (.agg (.cons (.ints .u64 5) (.cons (.ints .u64 5) (.cons (.ints .u64 5) (.one (.ints .u64 5)))))))))) (.cons (.agg (.one (.agg (.one (.agg (.cons (.ints .u64 5) (.cons (.ints .u64 5) (.cons (.ints .u64 5) (.one (.ints .u64 5)))))))))) (.cons (.agg (.one (.agg (.one (.agg (.cons (.ints .u64 5) (.cons (.ints .u64 5) (.cons (.ints .u64 5) (.one (.ints .u64 5)))))))))) (.one (.agg (.one (.agg (.one (.agg (.cons (.ints .u64 5) (.cons (.ints .u64 5) (.cons (.ints .u64 5) (.one (.ints .u64 5))))))))))))))) (.one (.lit (.clo 34 []))))))) x)).1 none (Pt.get ((.agg (.one (.agg (.one (.agg (.cons (.ints .u64 5) (.cons (.ints .u64 5) (.cons (.ints .u64 5) (.one (.ints .u64 5)))))))))))) = group_Sum_4 x := by
  intro x; kernel_rfl
theorem s_group_Sum_4 {w0 : World}  (h8 : SoundAt Tryd.prog w0 8 ct_group_Point_Add) : SoundAt Tryd.prog w0 17 ct_group_Sum_4 := by
  have hcs : ∀ x ∈ cs_group_Sum_4, SoundAt Tryd.prog w0 x.1 x.2 := by
    intro x hx
    simp only [cs_group_Sum_4, List.mem_cons, List.not_mem_nil, or_false] at hx
    rcases hx with rfl
    · exact h8
  exact fn_printed hcs (glob_nil _ _) Tryd.func17 (by kernel_rfl) (by kernel_rfl) (S := 1) (fun w _ => loopsOK_nil _) (fun _ => rfl) (r_group_Sum_4)
theorem k_group_Sum_4 {w0 : World}  (hg_curve_place_whole : GlobOK Tryd.prog w0 gs_curve_place_whole) (hg_curve_Point_Add : GlobOK Tryd.prog w0 gs_curve_Point_Add) : SoundAt Tryd.prog w0 17 ct_group_Sum_4 :=
  s_group_Sum_4 (k_group_Point_Add hg_curve_place_whole hg_curve_Point_Add)

def ct_group_Sum_nil : Ct := tct (.one (.lit .nils)) (.agg (.one (.agg (.one (.agg (.cons (.ints .u64 5) (.cons (.ints .u64 5) (.cons (.ints .u64 5) (.one (.ints .u64 5)))))))))) fun x => group_Sum_nil x
def cs_group_Sum_nil : List (FuncId × Ct) := []
def gs_group_Sum_nil : List Gv := []
noncomputable def ls_group_Sum_nil : List (Nat × Lf) := []
theorem r_group_Sum_nil : ∀ x, run Tryd.prog (fun g => lkG g (cs_group_Sum_nil)) (glAt gs_group_Sum_nil 0) (gs_group_Sum_nil.length + 0) (memAt gs_group_Sum_nil 0 ++ (unc gs_group_Sum_nil.length (Ag.mk ((.one (.lit .nils))) x)).2) (fun i => lkL i (ls_group_Sum_nil)) 100 Tryd.f17 (unc gs_group_Sum_nil.length (Ag.mk ((.one (.lit .nils))) x)).1 none (Pt.get ((.agg (.one (.agg (.one (.agg (.cons (.ints .u64 5) (.cons (.ints .u64 5) (.cons (.ints .u64 5) (.one (.ints .u64 5)))))))))))) = some (group_Sum_nil x) := by
  intro x; kernel_rfl
theorem s_group_Sum_nil {w0 : World}  : SoundAt Tryd.prog w0 17 ct_group_Sum_nil := by
  have hcs : ∀ x ∈ cs_group_Sum_nil, SoundAt Tryd.prog w0 x.1 x.2 := by
    intro x hx
    simp [cs_group_Sum_nil] at hx
  exact sound_tct (fn_printed hcs (glob_nil _ _) Tryd.func17 (by kernel_rfl) (by kernel_rfl) (S := 0) (fun w _ => loopsOK_nil _) (fun _ => rfl) (r_group_Sum_nil)) fun _ _ => rfl
theorem k_group_Sum_nil {w0 : World}  : SoundAt Tryd.prog w0 17 ct_group_Sum_nil :=
  s_group_Sum_nil

def ct_veillaw05_alive (N : Nat) : Ct := fct .nil .bool fun x => veillaw05_alive N
def cs_veillaw05_alive (N : Nat) : List (FuncId × Ct) := [(9, ct_group_Point_Same), (23, (ct_group_Point_Encode N)), (28, ct_group_Base)]
def gs_veillaw05_alive : List Gv := []
noncomputable def ls_veillaw05_alive (N : Nat) : List (Nat × Lf) := []
theorem r_veillaw05_alive (N : Nat) : ∀ x, run Tryd.prog (fun g => lkG g (cs_veillaw05_alive N)) (glAt gs_veillaw05_alive 0) (gs_veillaw05_alive.length + 0) (memAt gs_veillaw05_alive 0 ++ (unc gs_veillaw05_alive.length (Ag.mk (.nil) x)).2) (fun i => lkL i (ls_veillaw05_alive N)) 100 Tryd.f6 (unc gs_veillaw05_alive.length (Ag.mk (.nil) x)).1 none (Pt.get (.bool)) = veillaw05_alive N := by
  intro x; kernel_rfl
theorem s_veillaw05_alive {w0 : World} (N : Nat)  (h9 : SoundAt Tryd.prog w0 9 ct_group_Point_Same) (h23 : SoundAt Tryd.prog w0 23 (ct_group_Point_Encode N)) (h28 : SoundAt Tryd.prog w0 28 ct_group_Base) : SoundAt Tryd.prog w0 6 (ct_veillaw05_alive N) := by
  have hcs : ∀ x ∈ cs_veillaw05_alive N, SoundAt Tryd.prog w0 x.1 x.2 := by
    intro x hx
    simp only [cs_veillaw05_alive, List.mem_cons, List.not_mem_nil, or_false] at hx
    rcases hx with rfl | rfl | rfl
    · exact h9
    · exact h23
    · exact h28
  exact fn_printed hcs (glob_nil _ _) Tryd.func6 (by kernel_rfl) (by kernel_rfl) (S := 0) (fun w _ => loopsOK_nil _) (fun _ => rfl) (r_veillaw05_alive N)
theorem k_veillaw05_alive {w0 : World} (N : Nat)  (hg_curve_place_whole : GlobOK Tryd.prog w0 gs_curve_place_whole) (hg_curve_Point_Add : GlobOK Tryd.prog w0 gs_curve_Point_Add) (hg_field_Const : GlobOK Tryd.prog w0 gs_field_Const) (hg_field_SqrtRatio : GlobOK Tryd.prog w0 gs_field_SqrtRatio) (hg_curve_Base : GlobOK Tryd.prog w0 gs_curve_Base) : SoundAt Tryd.prog w0 6 (ct_veillaw05_alive N) :=
  s_veillaw05_alive N (k_group_Point_Same hg_curve_place_whole hg_curve_Point_Add) (k_group_Point_Encode N hg_field_Const hg_field_SqrtRatio hg_curve_place_whole) (k_group_Base hg_curve_Base)

def ct_veillaw05_GroupLaws (N : Nat) : Ct := fct (.cons (.ints .u8 64) (.cons (.ints .u8 64) (.cons (.ints .u8 64) (.cons (.ints .u64 4) (.one (.ints .u64 4)))))) .bool fun x => veillaw05_GroupLaws N x.1 x.2.1 x.2.2.1 x.2.2.2.1 x.2.2.2.2
def cs_veillaw05_GroupLaws (N : Nat) : List (FuncId × Ct) := [(6, (ct_veillaw05_alive N)), (7, (ct_group_Map N)), (8, ct_group_Point_Add), (9, ct_group_Point_Same), (10, ct_group_Point_Neg), (11, ct_group_Point_Double), (12, (ct_group_Point_Times N)), (13, ct_scalar_Scalar_Add), (14, (ct_scalar_Scalar_Mul N)), (15, ct_scalar_Int), (16, ct_scalar_Scalar_Neg), (17, (uct ct_group_Sum_4 ct_group_Sum_nil)), (18, ct_scalar_Scalar_IsZero), (19, ct_scalar_Scalar_Same)]
def gs_veillaw05_GroupLaws : List Gv := []
noncomputable def ls_veillaw05_GroupLaws (N : Nat) : List (Nat × Lf) := []
theorem r_veillaw05_GroupLaws (N : Nat) : ∀ x, run Tryd.prog (fun g => lkG g (cs_veillaw05_GroupLaws N)) (glAt gs_veillaw05_GroupLaws 0) (gs_veillaw05_GroupLaws.length + 0) (memAt gs_veillaw05_GroupLaws 0 ++ (unc gs_veillaw05_GroupLaws.length (Ag.mk ((.cons (.ints .u8 64) (.cons (.ints .u8 64) (.cons (.ints .u8 64) (.cons (.ints .u64 4) (.one (.ints .u64 4))))))) x)).2) (fun i => lkL i (ls_veillaw05_GroupLaws N)) 100 Tryd.f3 (unc gs_veillaw05_GroupLaws.length (Ag.mk ((.cons (.ints .u8 64) (.cons (.ints .u8 64) (.cons (.ints .u8 64) (.cons (.ints .u64 4) (.one (.ints .u64 4))))))) x)).1 none (Pt.get (.bool)) = veillaw05_GroupLaws N x.1 x.2.1 x.2.2.1 x.2.2.2.1 x.2.2.2.2 := by
  intro x; kernel_rfl
theorem s_veillaw05_GroupLaws {w0 : World} (N : Nat)  (h6 : SoundAt Tryd.prog w0 6 (ct_veillaw05_alive N)) (h7 : SoundAt Tryd.prog w0 7 (ct_group_Map N)) (h8 : SoundAt Tryd.prog w0 8 ct_group_Point_Add) (h9 : SoundAt Tryd.prog w0 9 ct_group_Point_Same) (h10 : SoundAt Tryd.prog w0 10 ct_group_Point_Neg) (h11 : SoundAt Tryd.prog w0 11 ct_group_Point_Double) (h12 : SoundAt Tryd.prog w0 12 (ct_group_Point_Times N)) (h13 : SoundAt Tryd.prog w0 13 ct_scalar_Scalar_Add) (h14 : SoundAt Tryd.prog w0 14 (ct_scalar_Scalar_Mul N)) (h15 : SoundAt Tryd.prog w0 15 ct_scalar_Int) (h16 : SoundAt Tryd.prog w0 16 ct_scalar_Scalar_Neg) (h17 : SoundAt Tryd.prog w0 17 (uct ct_group_Sum_4 ct_group_Sum_nil)) (h18 : SoundAt Tryd.prog w0 18 ct_scalar_Scalar_IsZero) (h19 : SoundAt Tryd.prog w0 19 ct_scalar_Scalar_Same) : SoundAt Tryd.prog w0 3 (ct_veillaw05_GroupLaws N) := by
  have hcs : ∀ x ∈ cs_veillaw05_GroupLaws N, SoundAt Tryd.prog w0 x.1 x.2 := by
    intro x hx
    simp only [cs_veillaw05_GroupLaws, List.mem_cons, List.not_mem_nil, or_false] at hx
    rcases hx with rfl | rfl | rfl | rfl | rfl | rfl | rfl | rfl | rfl | rfl | rfl | rfl | rfl | rfl
    · exact h6
    · exact h7
    · exact h8
    · exact h9
    · exact h10
    · exact h11
    · exact h12
    · exact h13
    · exact h14
    · exact h15
    · exact h16
    · exact h17
    · exact h18
    · exact h19
  exact fn_printed hcs (glob_nil _ _) Tryd.func3 (by kernel_rfl) (by kernel_rfl) (S := 0) (fun w _ => loopsOK_nil _) (fun _ => rfl) (r_veillaw05_GroupLaws N)
theorem k_veillaw05_GroupLaws {w0 : World} (N : Nat)  (hg_curve_place_whole : GlobOK Tryd.prog w0 gs_curve_place_whole) (hg_curve_Point_Add : GlobOK Tryd.prog w0 gs_curve_Point_Add) (hg_field_Const : GlobOK Tryd.prog w0 gs_field_Const) (hg_field_SqrtRatio : GlobOK Tryd.prog w0 gs_field_SqrtRatio) (hg_curve_Base : GlobOK Tryd.prog w0 gs_curve_Base) (hg_curve_at : GlobOK Tryd.prog w0 gs_curve_at) (hg_curve_FromAffine : GlobOK Tryd.prog w0 gs_curve_FromAffine) (hg_scalar_lower : GlobOK Tryd.prog w0 gs_scalar_lower) (hg_scalar_Scalar_Least : GlobOK Tryd.prog w0 gs_scalar_Scalar_Least) (hg_scalar_Scalar_Sub : GlobOK Tryd.prog w0 gs_scalar_Scalar_Sub) (hg_scalar_product : GlobOK Tryd.prog w0 gs_scalar_product) (hg_scalar_Scalar_Mul : GlobOK Tryd.prog w0 gs_scalar_Scalar_Mul) : SoundAt Tryd.prog w0 3 (ct_veillaw05_GroupLaws N) :=
  s_veillaw05_GroupLaws N (k_veillaw05_alive N hg_curve_place_whole hg_curve_Point_Add hg_field_Const hg_field_SqrtRatio hg_curve_Base) (k_group_Map N hg_curve_place_whole hg_curve_Point_Add hg_field_Const hg_field_SqrtRatio hg_curve_at hg_curve_FromAffine) (k_group_Point_Add hg_curve_place_whole hg_curve_Point_Add) (k_group_Point_Same hg_curve_place_whole hg_curve_Point_Add) (k_group_Point_Neg hg_curve_place_whole) (k_group_Point_Double hg_curve_place_whole) (k_group_Point_Times N hg_scalar_lower hg_scalar_Scalar_Least hg_scalar_Scalar_Sub hg_curve_place_whole hg_curve_Point_Add) (k_scalar_Scalar_Add hg_scalar_lower hg_scalar_Scalar_Least) (k_scalar_Scalar_Mul N hg_scalar_lower hg_scalar_Scalar_Least hg_scalar_product hg_scalar_Scalar_Mul) (k_scalar_Int) (k_scalar_Scalar_Neg hg_scalar_lower hg_scalar_Scalar_Least hg_scalar_Scalar_Sub) (sound_uct (k_group_Sum_4 hg_curve_place_whole hg_curve_Point_Add) (k_group_Sum_nil)) (k_scalar_Scalar_IsZero hg_scalar_lower hg_scalar_Scalar_Least) (k_scalar_Scalar_Same hg_scalar_lower hg_scalar_Scalar_Least)

def ct_group_FromCurve (N : Nat) : Ct := fct (.one (.agg (.one (.agg (.cons (.ints .u64 5) (.cons (.ints .u64 5) (.cons (.ints .u64 5) (.one (.ints .u64 5))))))))) (.tup (.cons (.agg (.one (.agg (.one (.agg (.cons (.ints .u64 5) (.cons (.ints .u64 5) (.cons (.ints .u64 5) (.one (.ints .u64 5)))))))))) (.one (.int .i64)))) fun x => group_FromCurve N x
def cs_group_FromCurve (N : Nat) : List (FuncId × Ct) := [(33, ct_curve_Point_Double), (42, (ct_curve_Point_Free N))]
def gs_group_FromCurve : List Gv := []
noncomputable def ls_group_FromCurve (N : Nat) : List (Nat × Lf) := []
theorem r_group_FromCurve (N : Nat) : ∀ x, run Tryd.prog (fun g => lkG g (cs_group_FromCurve N)) (glAt gs_group_FromCurve 0) (gs_group_FromCurve.length + 0) (memAt gs_group_FromCurve 0 ++ (unc gs_group_FromCurve.length (Ag.mk ((.one (.agg (.one (.agg (.cons (.ints .u64 5) (.cons (.ints .u64 5) (.cons (.ints .u64 5) (.one (.ints .u64 5)))))))))) x)).2) (fun i => lkL i (ls_group_FromCurve N)) 100 Tryd.f20 (unc gs_group_FromCurve.length (Ag.mk ((.one (.agg (.one (.agg (.cons (.ints .u64 5) (.cons (.ints .u64 5) (.cons (.ints .u64 5) (.one (.ints .u64 5)))))))))) x)).1 none (Pt.get ((.tup (.cons (.agg (.one (.agg (.one (.agg (.cons (.ints .u64 5) (.cons (.ints .u64 5) (.cons (.ints .u64 5) (.one (.ints .u64 5)))))))))) (.one (.int .i64)))))) = group_FromCurve N x := by
  intro x; kernel_rfl
theorem s_group_FromCurve {w0 : World} (N : Nat)  (h33 : SoundAt Tryd.prog w0 33 ct_curve_Point_Double) (h42 : SoundAt Tryd.prog w0 42 (ct_curve_Point_Free N)) : SoundAt Tryd.prog w0 20 (ct_group_FromCurve N) := by
  have hcs : ∀ x ∈ cs_group_FromCurve N, SoundAt Tryd.prog w0 x.1 x.2 := by
    intro x hx
    simp only [cs_group_FromCurve, List.mem_cons, List.not_mem_nil, or_false] at hx
    rcases hx with rfl | rfl
    · exact h33
    · exact h42
  exact fn_printed hcs (glob_nil _ _) Tryd.func20 (by kernel_rfl) (by kernel_rfl) (S := 0) (fun w _ => loopsOK_nil _) (fun _ => rfl) (r_group_FromCurve N)
theorem k_group_FromCurve {w0 : World} (N : Nat)  (hg_curve_place_whole : GlobOK Tryd.prog w0 gs_curve_place_whole) (hg_curve_Point_Add : GlobOK Tryd.prog w0 gs_curve_Point_Add) (hg_curve_Point_Free : GlobOK Tryd.prog w0 gs_curve_Point_Free) : SoundAt Tryd.prog w0 20 (ct_group_FromCurve N) :=
  s_group_FromCurve N (k_curve_Point_Double hg_curve_place_whole) (k_curve_Point_Free N hg_curve_place_whole hg_curve_Point_Add hg_curve_Point_Free)

def ct_bytes_Compare : Ct := tct (.cons (.tup (.cons (.lst .u8) (.one (.lit (.clo 5 []))))) (.one (.tup (.cons (.lst .u8) (.one (.lit (.clo 5 []))))))) (.int .i64) fun x => bytes_Compare x.1 x.2
def cs_bytes_Compare : List (FuncId × Ct) := [(79, ct_bytealg_Compare)]
def gs_bytes_Compare : List Gv := []
noncomputable def ls_bytes_Compare : List (Nat × Lf) := []
theorem r_bytes_Compare : ∀ x, run Tryd.prog (fun g => lkG g (cs_bytes_Compare)) (glAt gs_bytes_Compare 0) (gs_bytes_Compare.length + 2) (memAt gs_bytes_Compare 0 ++ (unc gs_bytes_Compare.length (Ag.mk ((.cons (.tup (.cons (.lst .u8) (.one (.lit (.clo 5 []))))) (.one (.tup (.cons (.lst .u8) (.one (.lit (.clo 5 [])))))))) x)).2) (fun i => lkL i (ls_bytes_Compare)) 100 Tryd.f46 (unc gs_bytes_Compare.length (Ag.mk ((.cons (.tup (.cons (.lst .u8) (.one (.lit (.clo 5 []))))) (.one (.tup (.cons (.lst .u8) (.one (.lit (.clo 5 [])))))))) x)).1 none (Pt.get ((.int .i64))) = some (bytes_Compare x.1 x.2) := by
  intro x; kernel_rfl
theorem s_bytes_Compare {w0 : World}  (h79 : SoundAt Tryd.prog w0 79 ct_bytealg_Compare) : SoundAt Tryd.prog w0 46 ct_bytes_Compare := by
  have hcs : ∀ x ∈ cs_bytes_Compare, SoundAt Tryd.prog w0 x.1 x.2 := by
    intro x hx
    simp only [cs_bytes_Compare, List.mem_cons, List.not_mem_nil, or_false] at hx
    rcases hx with rfl
    · exact h79
  exact sound_tct (fn_printed hcs (glob_nil _ _) Tryd.func46 (by kernel_rfl) (by kernel_rfl) (S := 2) (fun w _ => loopsOK_nil _) (fun _ => rfl) (r_bytes_Compare)) fun _ _ => rfl
theorem k_bytes_Compare {w0 : World}  : SoundAt Tryd.prog w0 46 ct_bytes_Compare :=
  s_bytes_Compare (k_bytealg_Compare)

def ct_group_Point_Coset_1 (N : Nat) : Ct := fct (.cons (.agg (.one (.agg (.cons (.ints .u64 5) (.cons (.ints .u64 5) (.cons (.ints .u64 5) (.one (.ints .u64 5)))))))) (.one (.agg (.one (.agg (.cons (.ints .u64 5) (.cons (.ints .u64 5) (.cons (.ints .u64 5) (.one (.ints .u64 5)))))))))) (.int .i64) fun x => group_Point_Coset_1 N x.1 x.2
def cs_group_Point_Coset_1 (N : Nat) : List (FuncId × Ct) := [(45, (ct_curve_Point_Compress N)), (46, ct_bytes_Compare)]
def gs_group_Point_Coset_1 : List Gv := []
noncomputable def ls_group_Point_Coset_1 (N : Nat) : List (Nat × Lf) := []
theorem r_group_Point_Coset_1 (N : Nat) : ∀ x, run Tryd.prog (fun g => lkG g (cs_group_Point_Coset_1 N)) (glAt gs_group_Point_Coset_1 0) (gs_group_Point_Coset_1.length + 0) (memAt gs_group_Point_Coset_1 0 ++ (unc gs_group_Point_Coset_1.length (Ag.mk ((.cons (.agg (.one (.agg (.cons (.ints .u64 5) (.cons (.ints .u64 5) (.cons (.ints .u64 5) (.one (.ints .u64 5)))))))) (.one (.agg (.one (.agg (.cons (.ints .u64 5) (.cons (.ints .u64 5) (.cons (.ints .u64 5) (.one (.ints .u64 5))))))))))) x)).2) (fun i => lkL i (ls_group_Point_Coset_1 N)) 100 Tryd.f44 (unc gs_group_Point_Coset_1.length (Ag.mk ((.cons (.agg (.one (.agg (.cons (.ints .u64 5) (.cons (.ints .u64 5) (.cons (.ints .u64 5) (.one (.ints .u64 5)))))))) (.one (.agg (.one (.agg (.cons (.ints .u64 5) (.cons (.ints .u64 5) (.cons (.ints .u64 5) (.one (.ints .u64 5))))))))))) x)).1 none (Pt.get ((.int .i64))) = group_Point_Coset_1 N x.1 x.2 := by
  intro x; kernel_rfl
theorem s_group_Point_Coset_1 {w0 : World} (N : Nat)  (h45 : SoundAt Tryd.prog w0 45 (ct_curve_Point_Compress N)) (h46 : SoundAt Tryd.prog w0 46 ct_bytes_Compare) : SoundAt Tryd.prog w0 44 (ct_group_Point_Coset_1 N) := by
  have hcs : ∀ x ∈ cs_group_Point_Coset_1 N, SoundAt Tryd.prog w0 x.1 x.2 := by
    intro x hx
    simp only [cs_group_Point_Coset_1, List.mem_cons, List.not_mem_nil, or_false] at hx
    rcases hx with rfl | rfl
    · exact h45
    · exact h46
  exact fn_printed hcs (glob_nil _ _) Tryd.func44 (by kernel_rfl) (by kernel_rfl) (S := 0) (fun w _ => loopsOK_nil _) (fun _ => rfl) (r_group_Point_Coset_1 N)
theorem k_group_Point_Coset_1 {w0 : World} (N : Nat)  (hg_curve_place_whole : GlobOK Tryd.prog w0 gs_curve_place_whole) : SoundAt Tryd.prog w0 44 (ct_group_Point_Coset_1 N) :=
  s_group_Point_Coset_1 N (k_curve_Point_Compress N hg_curve_place_whole) (k_bytes_Compare)

def ct_group_Point_Coset (N : Nat) : Ct := fct (.one (.agg (.one (.agg (.one (.agg (.cons (.ints .u64 5) (.cons (.ints .u64 5) (.cons (.ints .u64 5) (.one (.ints .u64 5))))))))))) (.agg (.cons (.agg (.one (.agg (.cons (.ints .u64 5) (.cons (.ints .u64 5) (.cons (.ints .u64 5) (.one (.ints .u64 5)))))))) (.cons (.agg (.one (.agg (.cons (.ints .u64 5) (.cons (.ints .u64 5) (.cons (.ints .u64 5) (.one (.ints .u64 5)))))))) (.cons (.agg (.one (.agg (.cons (.ints .u64 5) (.cons (.ints .u64 5) (.cons (.ints .u64 5) (.one (.ints .u64 5)))))))) (.one (.agg (.one (.agg (.cons (.ints .u64 5) (.cons (.ints .u64 5) (.cons (.ints .u64 5) (.one (.ints .u64 5))))))))))))) fun x => group_Point_Coset N x
def cs_group_Point_Coset (N : Nat) : List (FuncId × Ct) := [(30, ct_curve_Point_Add), (31, ct_curve_Torsion), (44, (ct_group_Point_Coset_1 N))]
def gs_group_Point_Coset : List Gv := []
noncomputable def is_group_Point_Coset (N : Nat) : List (FuncId × Inl) := ((43, inlOf Tryd.prog (cs_group_Point_Coset N) gs_group_Point_Coset 0 100 ((77, inlOf Tryd.prog (cs_group_Point_Coset N) gs_group_Point_Coset 0 100 ((98, inlOf Tryd.prog (cs_group_Point_Coset N) gs_group_Point_Coset 0 100 ((76, inlOf Tryd.prog (cs_group_Point_Coset N) gs_group_Point_Coset 0 100 ((89, inlOf Tryd.prog (cs_group_Point_Coset N) gs_group_Point_Coset 0 100 [] Tryd.f89) :: []) Tryd.f76) :: ((89, inlOf Tryd.prog (cs_group_Point_Coset N) gs_group_Point_Coset 0 100 [] Tryd.f89) :: [])) Tryd.f98) :: ((76, inlOf Tryd.prog (cs_group_Point_Coset N) gs_group_Point_Coset 0 100 ((89, inlOf Tryd.prog (cs_group_Point_Coset N) gs_group_Point_Coset 0 100 [] Tryd.f89) :: []) Tryd.f76) :: ((89, inlOf Tryd.prog (cs_group_Point_Coset N) gs_group_Point_Coset 0 100 [] Tryd.f89) :: []))) Tryd.f77) :: ((98, inlOf Tryd.prog (cs_group_Point_Coset N) gs_group_Point_Coset 0 100 ((76, inlOf Tryd.prog (cs_group_Point_Coset N) gs_group_Point_Coset 0 100 ((89, inlOf Tryd.prog (cs_group_Point_Coset N) gs_group_Point_Coset 0 100 [] Tryd.f89) :: []) Tryd.f76) :: ((89, inlOf Tryd.prog (cs_group_Point_Coset N) gs_group_Point_Coset 0 100 [] Tryd.f89) :: [])) Tryd.f98) :: ((76, inlOf Tryd.prog (cs_group_Point_Coset N) gs_group_Point_Coset 0 100 ((89, inlOf Tryd.prog (cs_group_Point_Coset N) gs_group_Point_Coset 0 100 [] Tryd.f89) :: []) Tryd.f76) :: ((89, inlOf Tryd.prog (cs_group_Point_Coset N) gs_group_Point_Coset 0 100 [] Tryd.f89) :: [])))) Tryd.f43) :: ((77, inlOf Tryd.prog (cs_group_Point_Coset N) gs_group_Point_Coset 0 100 ((98, inlOf Tryd.prog (cs_group_Point_Coset N) gs_group_Point_Coset 0 100 ((76, inlOf Tryd.prog (cs_group_Point_Coset N) gs_group_Point_Coset 0 100 ((89, inlOf Tryd.prog (cs_group_Point_Coset N) gs_group_Point_Coset 0 100 [] Tryd.f89) :: []) Tryd.f76) :: ((89, inlOf Tryd.prog (cs_group_Point_Coset N) gs_group_Point_Coset 0 100 [] Tryd.f89) :: [])) Tryd.f98) :: ((76, inlOf Tryd.prog (cs_group_Point_Coset N) gs_group_Point_Coset 0 100 ((89, inlOf Tryd.prog (cs_group_Point_Coset N) gs_group_Point_Coset 0 100 [] Tryd.f89) :: []) Tryd.f76) :: ((89, inlOf Tryd.prog (cs_group_Point_Coset N) gs_group_Point_Coset 0 100 [] Tryd.f89) :: []))) Tryd.f77) :: ((98, inlOf Tryd.prog (cs_group_Point_Coset N) gs_group_Point_Coset 0 100 ((76, inlOf Tryd.prog (cs_group_Point_Coset N) gs_group_Point_Coset 0 100 ((89, inlOf Tryd.prog (cs_group_Point_Coset N) gs_group_Point_Coset 0 100 [] Tryd.f89) :: []) Tryd.f76) :: ((89, inlOf Tryd.prog (cs_group_Point_Coset N) gs_group_Point_Coset 0 100 [] Tryd.f89) :: [])) Tryd.f98) :: ((76, inlOf Tryd.prog (cs_group_Point_Coset N) gs_group_Point_Coset 0 100 ((89, inlOf Tryd.prog (cs_group_Point_Coset N) gs_group_Point_Coset 0 100 [] Tryd.f89) :: []) Tryd.f76) :: ((89, inlOf Tryd.prog (cs_group_Point_Coset N) gs_group_Point_Coset 0 100 [] Tryd.f89) :: [])))))
theorem isok_group_Point_Coset (N : Nat) : InlAll Tryd.prog (cs_group_Point_Coset N) gs_group_Point_Coset 0 100 (is_group_Point_Coset N) := ⟨⟨Tryd.f43, Tryd.func43, by kernel_rfl, by kernel_rfl, rfl⟩, ⟨⟨Tryd.f77, Tryd.func77, by kernel_rfl, by kernel_rfl, rfl⟩, ⟨⟨Tryd.f98, Tryd.func98, by kernel_rfl, by kernel_rfl, rfl⟩, ⟨⟨Tryd.f76, Tryd.func76, by kernel_rfl, by kernel_rfl, rfl⟩, ⟨⟨Tryd.f89, Tryd.func89, by kernel_rfl, by kernel_rfl, rfl⟩, trivial⟩⟩⟩⟩⟩
noncomputable def ls_group_Point_Coset (N : Nat) : List (Nat × Lf) := []
theorem r_group_Point_Coset (N : Nat) : ∀ x, run Tryd.prog (fun g => lkG g (cs_group_Point_Coset N)) (glAt gs_group_Point_Coset 0) (gs_group_Point_Coset.length + 0) (memAt gs_group_Point_Coset 0 ++ (unc gs_group_Point_Coset.length (Ag.mk ((.one (.agg (.one (.agg (.one (.agg (.cons (.ints .u64 5) (.cons (.ints .u64 5) (.cons (.ints .u64 5) (.one (.ints .u64 5)))))))))))) x)).2) (fun i => lkL i (ls_group_Point_Coset N)) 100 Tryd.f21 (unc gs_group_Point_Coset.length (Ag.mk ((.one (.agg (.one (.agg (.one (.agg (.cons (.ints .u64 5) (.cons (.ints .u64 5) (.cons (.ints .u64 5) (.one (.ints .u64 5)))))))))))) x)).1 none (Pt.get ((.agg (.cons (.agg (.one (.agg (.cons (.ints .u64 5) (.cons (.ints .u64 5) (.cons (.ints .u64 5) (.one (.ints .u64 5)))))))) (.cons (.agg (.one (.agg (.cons (.ints .u64 5) (.cons (.ints .u64 5) (.cons (.ints .u64 5) (.one (.ints .u64 5)))))))) (.cons (.agg (.one (.agg (.cons (.ints .u64 5) (.cons (.ints .u64 5) (.cons (.ints .u64 5) (.one (.ints .u64 5)))))))) (.one (.agg (.one (.agg (.cons (.ints .u64 5) (.cons (.ints .u64 5) (.cons (.ints .u64 5) (.one (.ints .u64 5))))))))))))))) (fun g => lkI g (is_group_Point_Coset N)) = group_Point_Coset N x := by
  intro x; kernel_rfl
theorem s_group_Point_Coset {w0 : World} (N : Nat)  (h30 : SoundAt Tryd.prog w0 30 ct_curve_Point_Add) (h31 : SoundAt Tryd.prog w0 31 ct_curve_Torsion) (h44 : SoundAt Tryd.prog w0 44 (ct_group_Point_Coset_1 N)) : SoundAt Tryd.prog w0 21 (ct_group_Point_Coset N) := by
  have hcs : ∀ x ∈ cs_group_Point_Coset N, SoundAt Tryd.prog w0 x.1 x.2 := by
    intro x hx
    simp only [cs_group_Point_Coset, List.mem_cons, List.not_mem_nil, or_false] at hx
    rcases hx with rfl | rfl | rfl
    · exact h30
    · exact h31
    · exact h44
  exact fn_printedI hcs (glob_nil _ _) (isok_group_Point_Coset N) Tryd.func21 (by kernel_rfl) (by kernel_rfl) (S := 0) (fun w _ => loopsOK_nil _) (fun _ => rfl) (r_group_Point_Coset N)
theorem k_group_Point_Coset {w0 : World} (N : Nat)  (hg_curve_place_whole : GlobOK Tryd.prog w0 gs_curve_place_whole) (hg_curve_Point_Add : GlobOK Tryd.prog w0 gs_curve_Point_Add) (hg_curve_Torsion : GlobOK Tryd.prog w0 gs_curve_Torsion) : SoundAt Tryd.prog w0 21 (ct_group_Point_Coset N) :=
  s_group_Point_Coset N (k_curve_Point_Add hg_curve_place_whole hg_curve_Point_Add) (k_curve_Torsion hg_curve_Torsion) (k_group_Point_Coset_1 N hg_curve_place_whole)

def ct_group_Point_Decode (N : Nat) : Ct := fct (.cons (.agg (.one (.agg (.one (.agg (.cons (.ints .u64 5) (.cons (.ints .u64 5) (.cons (.ints .u64 5) (.one (.ints .u64 5)))))))))) (.one (.ints .u8 32))) (.tup (.cons (.agg (.one (.agg (.one (.agg (.cons (.ints .u64 5) (.cons (.ints .u64 5) (.cons (.ints .u64 5) (.one (.ints .u64 5)))))))))) (.one (.int .i64)))) fun x => group_Point_Decode N x.1 x.2
def cs_group_Point_Decode (N : Nat) : List (FuncId × Ct) := [(25, ct_field_Elem_Neg), (47, ct_field_Elem_One), (48, ct_field_Const), (49, ct_field_Elem_Mul), (50, ct_field_Elem_Square), (51, ct_field_Elem_Add), (52, ct_field_Elem_Sub), (53, (ct_field_SqrtRatio N)), (56, ct_field_Elem_Abs), (58, ct_curve_FromAffine), (60, ct_field_Elem_Negative), (69, ct_field_Decode), (70, ct_field_Elem_IsZero)]
def gs_group_Point_Decode : List Gv := []
noncomputable def ls_group_Point_Decode (N : Nat) : List (Nat × Lf) := []
theorem r_group_Point_Decode (N : Nat) : ∀ x, run Tryd.prog (fun g => lkG g (cs_group_Point_Decode N)) (glAt gs_group_Point_Decode 0) (gs_group_Point_Decode.length + 0) (memAt gs_group_Point_Decode 0 ++ (unc gs_group_Point_Decode.length (Ag.mk ((.cons (.agg (.one (.agg (.one (.agg (.cons (.ints .u64 5) (.cons (.ints .u64 5) (.cons (.ints .u64 5) (.one (.ints .u64 5)))))))))) (.one (.ints .u8 32)))) x)).2) (fun i => lkL i (ls_group_Point_Decode N)) 100 Tryd.f29 (unc gs_group_Point_Decode.length (Ag.mk ((.cons (.agg (.one (.agg (.one (.agg (.cons (.ints .u64 5) (.cons (.ints .u64 5) (.cons (.ints .u64 5) (.one (.ints .u64 5)))))))))) (.one (.ints .u8 32)))) x)).1 none (Pt.get ((.tup (.cons (.agg (.one (.agg (.one (.agg (.cons (.ints .u64 5) (.cons (.ints .u64 5) (.cons (.ints .u64 5) (.one (.ints .u64 5)))))))))) (.one (.int .i64)))))) = group_Point_Decode N x.1 x.2 := by
  intro x; kernel_rfl
theorem s_group_Point_Decode {w0 : World} (N : Nat)  (h25 : SoundAt Tryd.prog w0 25 ct_field_Elem_Neg) (h47 : SoundAt Tryd.prog w0 47 ct_field_Elem_One) (h48 : SoundAt Tryd.prog w0 48 ct_field_Const) (h49 : SoundAt Tryd.prog w0 49 ct_field_Elem_Mul) (h50 : SoundAt Tryd.prog w0 50 ct_field_Elem_Square) (h51 : SoundAt Tryd.prog w0 51 ct_field_Elem_Add) (h52 : SoundAt Tryd.prog w0 52 ct_field_Elem_Sub) (h53 : SoundAt Tryd.prog w0 53 (ct_field_SqrtRatio N)) (h56 : SoundAt Tryd.prog w0 56 ct_field_Elem_Abs) (h58 : SoundAt Tryd.prog w0 58 ct_curve_FromAffine) (h60 : SoundAt Tryd.prog w0 60 ct_field_Elem_Negative) (h69 : SoundAt Tryd.prog w0 69 ct_field_Decode) (h70 : SoundAt Tryd.prog w0 70 ct_field_Elem_IsZero) : SoundAt Tryd.prog w0 29 (ct_group_Point_Decode N) := by
  have hcs : ∀ x ∈ cs_group_Point_Decode N, SoundAt Tryd.prog w0 x.1 x.2 := by
    intro x hx
    simp only [cs_group_Point_Decode, List.mem_cons, List.not_mem_nil, or_false] at hx
    rcases hx with rfl | rfl | rfl | rfl | rfl | rfl | rfl | rfl | rfl | rfl | rfl | rfl | rfl
    · exact h25
    · exact h47
    · exact h48
    · exact h49
    · exact h50
    · exact h51
    · exact h52
    · exact h53
    · exact h56
    · exact h58
    · exact h60
    · exact h69
    · exact h70
  exact fn_printed hcs (glob_nil _ _) Tryd.func29 (by kernel_rfl) (by kernel_rfl) (S := 0) (fun w _ => loopsOK_nil _) (fun _ => rfl) (r_group_Point_Decode N)
theorem k_group_Point_Decode {w0 : World} (N : Nat)  (hg_field_Const : GlobOK Tryd.prog w0 gs_field_Const) (hg_field_SqrtRatio : GlobOK Tryd.prog w0 gs_field_SqrtRatio) (hg_curve_at : GlobOK Tryd.prog w0 gs_curve_at) (hg_curve_FromAffine : GlobOK Tryd.prog w0 gs_curve_FromAffine) : SoundAt Tryd.prog w0 29 (ct_group_Point_Decode N) :=
  s_group_Point_Decode N (k_field_Elem_Neg) (k_field_Elem_One) (k_field_Const hg_field_Const) (k_field_Elem_Mul) (k_field_Elem_Square) (k_field_Elem_Add) (k_field_Elem_Sub) (k_field_SqrtRatio N hg_field_SqrtRatio) (k_field_Elem_Abs) (k_curve_FromAffine hg_field_Const hg_curve_at hg_curve_FromAffine) (k_field_Elem_Negative) (k_field_Decode) (k_field_Elem_IsZero)

def ct_veillaw05_GroupLimbs (N : Nat) : Ct := fct (.cons (.ints .u64 5) (.cons (.ints .u64 4) (.cons (.ints .u8 64) (.one (.int .i64))))) .bool fun x => veillaw05_GroupLimbs N x.1 x.2.1 x.2.2.1 x.2.2.2
def cs_veillaw05_GroupLimbs (N : Nat) : List (FuncId × Ct) := [(6, (ct_veillaw05_alive N)), (7, (ct_group_Map N)), (8, ct_group_Point_Add), (9, ct_group_Point_Same), (10, ct_group_Point_Neg), (11, ct_group_Point_Double), (12, (ct_group_Point_Times N)), (20, (ct_group_FromCurve N)), (21, (ct_group_Point_Coset N)), (22, (ct_group_MapHalf N)), (23, (ct_group_Point_Encode N)), (24, ct_field_Elem_Least), (25, ct_field_Elem_Neg), (26, ct_scalar_Scalar_Least), (27, ct_curve_Point_Same)]
def gs_veillaw05_GroupLimbs : List Gv := []
noncomputable def ls_veillaw05_GroupLimbs (N : Nat) : List (Nat × Lf) := []
theorem r_veillaw05_GroupLimbs (N : Nat) : ∀ x, run Tryd.prog (fun g => lkG g (cs_veillaw05_GroupLimbs N)) (glAt gs_veillaw05_GroupLimbs 0) (gs_veillaw05_GroupLimbs.length + 0) (memAt gs_veillaw05_GroupLimbs 0 ++ (unc gs_veillaw05_GroupLimbs.length (Ag.mk ((.cons (.ints .u64 5) (.cons (.ints .u64 4) (.cons (.ints .u8 64) (.one (.int .i64)))))) x)).2) (fun i => lkL i (ls_veillaw05_GroupLimbs N)) 100 Tryd.f4 (unc gs_veillaw05_GroupLimbs.length (Ag.mk ((.cons (.ints .u64 5) (.cons (.ints .u64 4) (.cons (.ints .u8 64) (.one (.int .i64)))))) x)).1 none (Pt.get (.bool)) = veillaw05_GroupLimbs N x.1 x.2.1 x.2.2.1 x.2.2.2 := by
  intro x; kernel_rfl
theorem s_veillaw05_GroupLimbs {w0 : World} (N : Nat)  (h6 : SoundAt Tryd.prog w0 6 (ct_veillaw05_alive N)) (h7 : SoundAt Tryd.prog w0 7 (ct_group_Map N)) (h8 : SoundAt Tryd.prog w0 8 ct_group_Point_Add) (h9 : SoundAt Tryd.prog w0 9 ct_group_Point_Same) (h10 : SoundAt Tryd.prog w0 10 ct_group_Point_Neg) (h11 : SoundAt Tryd.prog w0 11 ct_group_Point_Double) (h12 : SoundAt Tryd.prog w0 12 (ct_group_Point_Times N)) (h20 : SoundAt Tryd.prog w0 20 (ct_group_FromCurve N)) (h21 : SoundAt Tryd.prog w0 21 (ct_group_Point_Coset N)) (h22 : SoundAt Tryd.prog w0 22 (ct_group_MapHalf N)) (h23 : SoundAt Tryd.prog w0 23 (ct_group_Point_Encode N)) (h24 : SoundAt Tryd.prog w0 24 ct_field_Elem_Least) (h25 : SoundAt Tryd.prog w0 25 ct_field_Elem_Neg) (h26 : SoundAt Tryd.prog w0 26 ct_scalar_Scalar_Least) (h27 : SoundAt Tryd.prog w0 27 ct_curve_Point_Same) : SoundAt Tryd.prog w0 4 (ct_veillaw05_GroupLimbs N) := by
  have hcs : ∀ x ∈ cs_veillaw05_GroupLimbs N, SoundAt Tryd.prog w0 x.1 x.2 := by
    intro x hx
    simp only [cs_veillaw05_GroupLimbs, List.mem_cons, List.not_mem_nil, or_false] at hx
    rcases hx with rfl | rfl | rfl | rfl | rfl | rfl | rfl | rfl | rfl | rfl | rfl | rfl | rfl | rfl | rfl
    · exact h6
    · exact h7
    · exact h8
    · exact h9
    · exact h10
    · exact h11
    · exact h12
    · exact h20
    · exact h21
    · exact h22
    · exact h23
    · exact h24
    · exact h25
    · exact h26
    · exact h27
  exact fn_printed hcs (glob_nil _ _) Tryd.func4 (by kernel_rfl) (by kernel_rfl) (S := 0) (fun w _ => loopsOK_nil _) (fun _ => rfl) (r_veillaw05_GroupLimbs N)
theorem k_veillaw05_GroupLimbs {w0 : World} (N : Nat)  (hg_curve_place_whole : GlobOK Tryd.prog w0 gs_curve_place_whole) (hg_curve_Point_Add : GlobOK Tryd.prog w0 gs_curve_Point_Add) (hg_field_Const : GlobOK Tryd.prog w0 gs_field_Const) (hg_field_SqrtRatio : GlobOK Tryd.prog w0 gs_field_SqrtRatio) (hg_curve_Base : GlobOK Tryd.prog w0 gs_curve_Base) (hg_curve_at : GlobOK Tryd.prog w0 gs_curve_at) (hg_curve_FromAffine : GlobOK Tryd.prog w0 gs_curve_FromAffine) (hg_scalar_lower : GlobOK Tryd.prog w0 gs_scalar_lower) (hg_scalar_Scalar_Least : GlobOK Tryd.prog w0 gs_scalar_Scalar_Least) (hg_scalar_Scalar_Sub : GlobOK Tryd.prog w0 gs_scalar_Scalar_Sub) (hg_curve_Point_Free : GlobOK Tryd.prog w0 gs_curve_Point_Free) (hg_curve_Torsion : GlobOK Tryd.prog w0 gs_curve_Torsion) : SoundAt Tryd.prog w0 4 (ct_veillaw05_GroupLimbs N) :=
  s_veillaw05_GroupLimbs N (k_veillaw05_alive N hg_curve_place_whole hg_curve_Point_Add hg_field_Const hg_field_SqrtRatio hg_curve_Base) (k_group_Map N hg_curve_place_whole hg_curve_Point_Add hg_field_Const hg_field_SqrtRatio hg_curve_at hg_curve_FromAffine) (k_group_Point_Add hg_curve_place_whole hg_curve_Point_Add) (k_group_Point_Same hg_curve_place_whole hg_curve_Point_Add) (k_group_Point_Neg hg_curve_place_whole) (k_group_Point_Double hg_curve_place_whole) (k_group_Point_Times N hg_scalar_lower hg_scalar_Scalar_Least hg_scalar_Scalar_Sub hg_curve_place_whole hg_curve_Point_Add) (k_group_FromCurve N hg_curve_place_whole hg_curve_Point_Add hg_curve_Point_Free) (k_group_Point_Coset N hg_curve_place_whole hg_curve_Point_Add hg_curve_Torsion) (k_group_MapHalf N hg_field_Const hg_field_SqrtRatio hg_curve_at hg_curve_FromAffine) (k_group_Point_Encode N hg_field_Const hg_field_SqrtRatio hg_curve_place_whole) (k_field_Elem_Least) (k_field_Elem_Neg) (k_scalar_Scalar_Least hg_scalar_lower hg_scalar_Scalar_Least) (k_curve_Point_Same hg_curve_place_whole)

def ct_veillaw05_GroupOne (N : Nat) : Ct := fct (.cons (.ints .u8 64) (.cons (.ints .u8 64) (.cons (.ints .u8 32) (.one (.ints .u64 4))))) .bool fun x => veillaw05_GroupOne N x.1 x.2.1 x.2.2.1 x.2.2.2
def cs_veillaw05_GroupOne (N : Nat) : List (FuncId × Ct) := [(6, (ct_veillaw05_alive N)), (7, (ct_group_Map N)), (8, ct_group_Point_Add), (9, ct_group_Point_Same), (12, (ct_group_Point_Times N)), (20, (ct_group_FromCurve N)), (21, (ct_group_Point_Coset N)), (23, (ct_group_Point_Encode N)), (27, ct_curve_Point_Same), (28, ct_group_Base), (29, (ct_group_Point_Decode N)), (30, ct_curve_Point_Add), (31, ct_curve_Torsion), (32, ct_curve_Point_Sub), (33, ct_curve_Point_Double)]
def gs_veillaw05_GroupOne : List Gv := []
noncomputable def ls_veillaw05_GroupOne (N : Nat) : List (Nat × Lf) := []
theorem r_veillaw05_GroupOne (N : Nat) : ∀ x, run Tryd.prog (fun g => lkG g (cs_veillaw05_GroupOne N)) (glAt gs_veillaw05_GroupOne 0) (gs_veillaw05_GroupOne.length + 0) (memAt gs_veillaw05_GroupOne 0 ++ (unc gs_veillaw05_GroupOne.length (Ag.mk ((.cons (.ints .u8 64) (.cons (.ints .u8 64) (.cons (.ints .u8 32) (.one (.ints .u64 4)))))) x)).2) (fun i => lkL i (ls_veillaw05_GroupOne N)) 100 Tryd.f5 (unc gs_veillaw05_GroupOne.length (Ag.mk ((.cons (.ints .u8 64) (.cons (.ints .u8 64) (.cons (.ints .u8 32) (.one (.ints .u64 4)))))) x)).1 none (Pt.get (.bool)) = veillaw05_GroupOne N x.1 x.2.1 x.2.2.1 x.2.2.2 := by
  intro x; kernel_rfl
theorem s_veillaw05_GroupOne {w0 : World} (N : Nat)  (h6 : SoundAt Tryd.prog w0 6 (ct_veillaw05_alive N)) (h7 : SoundAt Tryd.prog w0 7 (ct_group_Map N)) (h8 : SoundAt Tryd.prog w0 8 ct_group_Point_Add) (h9 : SoundAt Tryd.prog w0 9 ct_group_Point_Same) (h12 : SoundAt Tryd.prog w0 12 (ct_group_Point_Times N)) (h20 : SoundAt Tryd.prog w0 20 (ct_group_FromCurve N)) (h21 : SoundAt Tryd.prog w0 21 (ct_group_Point_Coset N)) (h23 : SoundAt Tryd.prog w0 23 (ct_group_Point_Encode N)) (h27 : SoundAt Tryd.prog w0 27 ct_curve_Point_Same) (h28 : SoundAt Tryd.prog w0 28 ct_group_Base) (h29 : SoundAt Tryd.prog w0 29 (ct_group_Point_Decode N)) (h30 : SoundAt Tryd.prog w0 30 ct_curve_Point_Add) (h31 : SoundAt Tryd.prog w0 31 ct_curve_Torsion) (h32 : SoundAt Tryd.prog w0 32 ct_curve_Point_Sub) (h33 : SoundAt Tryd.prog w0 33 ct_curve_Point_Double) : SoundAt Tryd.prog w0 5 (ct_veillaw05_GroupOne N) := by
  have hcs : ∀ x ∈ cs_veillaw05_GroupOne N, SoundAt Tryd.prog w0 x.1 x.2 := by
    intro x hx
    simp only [cs_veillaw05_GroupOne, List.mem_cons, List.not_mem_nil, or_false] at hx
    rcases hx with rfl | rfl | rfl | rfl | rfl | rfl | rfl | rfl | rfl | rfl | rfl | rfl | rfl | rfl | rfl
    · exact h6
    · exact h7
    · exact h8
    · exact h9
    · exact h12
    · exact h20
    · exact h21
    · exact h23
    · exact h27
    · exact h28
    · exact h29
    · exact h30
    · exact h31
    · exact h32
    · exact h33
  exact fn_printed hcs (glob_nil _ _) Tryd.func5 (by kernel_rfl) (by kernel_rfl) (S := 0) (fun w _ => loopsOK_nil _) (fun _ => rfl) (r_veillaw05_GroupOne N)
theorem k_veillaw05_GroupOne {w0 : World} (N : Nat)  (hg_curve_place_whole : GlobOK Tryd.prog w0 gs_curve_place_whole) (hg_curve_Point_Add : GlobOK Tryd.prog w0 gs_curve_Point_Add) (hg_field_Const : GlobOK Tryd.prog w0 gs_field_Const) (hg_field_SqrtRatio : GlobOK Tryd.prog w0 gs_field_SqrtRatio) (hg_curve_Base : GlobOK Tryd.prog w0 gs_curve_Base) (hg_curve_at : GlobOK Tryd.prog w0 gs_curve_at) (hg_curve_FromAffine : GlobOK Tryd.prog w0 gs_curve_FromAffine) (hg_scalar_lower : GlobOK Tryd.prog w0 gs_scalar_lower) (hg_scalar_Scalar_Least : GlobOK Tryd.prog w0 gs_scalar_Scalar_Least) (hg_scalar_Scalar_Sub : GlobOK Tryd.prog w0 gs_scalar_Scalar_Sub) (hg_curve_Point_Free : GlobOK Tryd.prog w0 gs_curve_Point_Free) (hg_curve_Torsion : GlobOK Tryd.prog w0 gs_curve_Torsion) : SoundAt Tryd.prog w0 5 (ct_veillaw05_GroupOne N) :=
  s_veillaw05_GroupOne N (k_veillaw05_alive N hg_curve_place_whole hg_curve_Point_Add hg_field_Const hg_field_SqrtRatio hg_curve_Base) (k_group_Map N hg_curve_place_whole hg_curve_Point_Add hg_field_Const hg_field_SqrtRatio hg_curve_at hg_curve_FromAffine) (k_group_Point_Add hg_curve_place_whole hg_curve_Point_Add) (k_group_Point_Same hg_curve_place_whole hg_curve_Point_Add) (k_group_Point_Times N hg_scalar_lower hg_scalar_Scalar_Least hg_scalar_Scalar_Sub hg_curve_place_whole hg_curve_Point_Add) (k_group_FromCurve N hg_curve_place_whole hg_curve_Point_Add hg_curve_Point_Free) (k_group_Point_Coset N hg_curve_place_whole hg_curve_Point_Add hg_curve_Torsion) (k_group_Point_Encode N hg_field_Const hg_field_SqrtRatio hg_curve_place_whole) (k_curve_Point_Same hg_curve_place_whole) (k_group_Base hg_curve_Base) (k_group_Point_Decode N hg_field_Const hg_field_SqrtRatio hg_curve_at hg_curve_FromAffine) (k_curve_Point_Add hg_curve_place_whole hg_curve_Point_Add) (k_curve_Torsion hg_curve_Torsion) (k_curve_Point_Sub hg_curve_place_whole hg_curve_Point_Add) (k_curve_Point_Double hg_curve_place_whole)

end Go.Vx
