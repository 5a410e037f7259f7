import Derived.Test.YtfnhpenkobcblaaFp
import Derived.Test.YtfnhpenkobcblaaProg
set_option autoImplicit false
set_option linter.unusedVariables false
set_option linter.unusedSimpArgs false
namespace Go.Vx
open Go Go.Proofs

def ct_bits_Add64 : Ct := fct (.cons (.int .u64) (.cons (.int .u64) (.one (.int .u64)))) (.tup (.cons (.int .u64) (.one (.int .u64)))) fun x => bits_Add64 x.1 x.2.1 x.2.2

theorem k_bits_Add64 {w0 : World} : SoundAt Try.prog w0 38 ct_bits_Add64 :=
  sound_add64 Try.func38 (by kernel_rfl) (by kernel_rfl) (by kernel_rfl) (by kernel_rfl)

def ct_field_Elem_light : Ct := tct (.one (.ints .u64 5)) (.ints .u64 5) fun x => field_Elem_light x
def cs_field_Elem_light : List (FuncId × Ct) := []
def gs_field_Elem_light : List Gv := []
noncomputable def ls_field_Elem_light : List (Nat × Lf) := []
theorem r_field_Elem_light : ∀ x, run Try.prog (fun g => lkG g (cs_field_Elem_light)) (glAt gs_field_Elem_light 0) gs_field_Elem_light.length (memAt gs_field_Elem_light 0) (fun i => lkL i (ls_field_Elem_light)) 100 Try.f31 (Ag.mk ((.one (.ints .u64 5))) x) none (Pt.get ((.ints .u64 5))) = some (field_Elem_light x) := by
  intro x; kernel_rfl
theorem s_field_Elem_light {w0 : World}  : SoundAt Try.prog w0 31 ct_field_Elem_light := by
  have hcs : ∀ x ∈ cs_field_Elem_light, SoundAt Try.prog w0 x.1 x.2 := by
    intro x hx
    simp [cs_field_Elem_light] at hx
  exact sound_tct (fn_printed hcs (glob_nil _ _) Try.func31 (by kernel_rfl) (by kernel_rfl) (fun w _ => loopsOK_nil _) (r_field_Elem_light)) fun _ _ => rfl
theorem k_field_Elem_light {w0 : World}  : SoundAt Try.prog w0 31 ct_field_Elem_light :=
  s_field_Elem_light

def ct_field_Elem_Least : Ct := tct (.one (.ints .u64 5)) (.ints .u64 5) fun x => field_Elem_Least x
def cs_field_Elem_Least : List (FuncId × Ct) := [(31, ct_field_Elem_light)]
def gs_field_Elem_Least : List Gv := []
noncomputable def ls_field_Elem_Least : List (Nat × Lf) := []
theorem r_field_Elem_Least : ∀ x, run Try.prog (fun g => lkG g (cs_field_Elem_Least)) (glAt gs_field_Elem_Least 0) gs_field_Elem_Least.length (memAt gs_field_Elem_Least 0) (fun i => lkL i (ls_field_Elem_Least)) 100 Try.f11 (Ag.mk ((.one (.ints .u64 5))) x) none (Pt.get ((.ints .u64 5))) = some (field_Elem_Least x) := by
  intro x; kernel_rfl
theorem s_field_Elem_Least {w0 : World}  (h31 : SoundAt Try.prog w0 31 ct_field_Elem_light) : SoundAt Try.prog w0 11 ct_field_Elem_Least := by
  have hcs : ∀ x ∈ cs_field_Elem_Least, SoundAt Try.prog w0 x.1 x.2 := by
    intro x hx
    simp only [cs_field_Elem_Least, List.mem_cons, List.not_mem_nil, or_false] at hx
    rcases hx with rfl
    · exact h31
  exact sound_tct (fn_printed hcs (glob_nil _ _) Try.func11 (by kernel_rfl) (by kernel_rfl) (fun w _ => loopsOK_nil _) (r_field_Elem_Least)) fun _ _ => rfl
theorem k_field_Elem_Least {w0 : World}  : SoundAt Try.prog w0 11 ct_field_Elem_Least :=
  s_field_Elem_Least (k_field_Elem_light)

def ct_field_Elem_slim : Ct := tct (.one (.ints .u64 5)) .bool fun x => field_Elem_slim x
def cs_field_Elem_slim : List (FuncId × Ct) := []
def gs_field_Elem_slim : List Gv := []
noncomputable def ls_field_Elem_slim : List (Nat × Lf) := []
theorem r_field_Elem_slim : ∀ x, run Try.prog (fun g => lkG g (cs_field_Elem_slim)) (glAt gs_field_Elem_slim 0) gs_field_Elem_slim.length (memAt gs_field_Elem_slim 0) (fun i => lkL i (ls_field_Elem_slim)) 100 Try.f27 (Ag.mk ((.one (.ints .u64 5))) x) none (Pt.get (.bool)) = some (field_Elem_slim x) := by
  intro x; kernel_rfl
theorem s_field_Elem_slim {w0 : World}  : SoundAt Try.prog w0 27 ct_field_Elem_slim := by
  have hcs : ∀ x ∈ cs_field_Elem_slim, SoundAt Try.prog w0 x.1 x.2 := by
    intro x hx
    simp [cs_field_Elem_slim] at hx
  exact sound_tct (fn_printed hcs (glob_nil _ _) Try.func27 (by kernel_rfl) (by kernel_rfl) (fun w _ => loopsOK_nil _) (r_field_Elem_slim)) fun _ _ => rfl
theorem k_field_Elem_slim {w0 : World}  : SoundAt Try.prog w0 27 ct_field_Elem_slim :=
  s_field_Elem_slim

def ct_field_last : Ct := tct (.cons (.int .u64) (.cons (.int .u64) (.cons (.int .u64) (.cons (.int .u64) (.one (.int .u64)))))) (.ints .u64 5) fun x => field_last x.1 x.2.1 x.2.2.1 x.2.2.2.1 x.2.2.2.2
def cs_field_last : List (FuncId × Ct) := []
def gs_field_last : List Gv := []
noncomputable def ls_field_last : List (Nat × Lf) := []
theorem r_field_last : ∀ x, run Try.prog (fun g => lkG g (cs_field_last)) (glAt gs_field_last 0) gs_field_last.length (memAt gs_field_last 0) (fun i => lkL i (ls_field_last)) 100 Try.f36 (Ag.mk ((.cons (.int .u64) (.cons (.int .u64) (.cons (.int .u64) (.cons (.int .u64) (.one (.int .u64))))))) x) none (Pt.get ((.ints .u64 5))) = some (field_last x.1 x.2.1 x.2.2.1 x.2.2.2.1 x.2.2.2.2) := by
  intro x; kernel_rfl
theorem s_field_last {w0 : World}  : SoundAt Try.prog w0 36 ct_field_last := by
  have hcs : ∀ x ∈ cs_field_last, SoundAt Try.prog w0 x.1 x.2 := by
    intro x hx
    simp [cs_field_last] at hx
  exact sound_tct (fn_printed hcs (glob_nil _ _) Try.func36 (by kernel_rfl) (by kernel_rfl) (fun w _ => loopsOK_nil _) (r_field_last)) fun _ _ => rfl
theorem k_field_last {w0 : World}  : SoundAt Try.prog w0 36 ct_field_last :=
  s_field_last

def ct_field_closed : Ct := tct (.cons (.int .u64) (.cons (.int .u64) (.cons (.int .u64) (.cons (.int .u64) (.one (.int .u64)))))) (.ints .u64 5) fun x => field_closed x.1 x.2.1 x.2.2.1 x.2.2.2.1 x.2.2.2.2
def cs_field_closed : List (FuncId × Ct) := [(36, ct_field_last)]
def gs_field_closed : List Gv := []
noncomputable def ls_field_closed : List (Nat × Lf) := []
theorem r_field_closed : ∀ x, run Try.prog (fun g => lkG g (cs_field_closed)) (glAt gs_field_closed 0) gs_field_closed.length (memAt gs_field_closed 0) (fun i => lkL i (ls_field_closed)) 100 Try.f28 (Ag.mk ((.cons (.int .u64) (.cons (.int .u64) (.cons (.int .u64) (.cons (.int .u64) (.one (.int .u64))))))) x) none (Pt.get ((.ints .u64 5))) = field_closed_o x.1 x.2.1 x.2.2.1 x.2.2.2.1 x.2.2.2.2 := by
  intro x; kernel_rfl
theorem s_field_closed {w0 : World}  (h36 : SoundAt Try.prog w0 36 ct_field_last) : SoundAt Try.prog w0 28 ct_field_closed := by
  have hcs : ∀ x ∈ cs_field_closed, SoundAt Try.prog w0 x.1 x.2 := by
    intro x hx
    simp only [cs_field_closed, List.mem_cons, List.not_mem_nil, or_false] at hx
    rcases hx with rfl
    · exact h36
  exact sound_tct (fn_printed hcs (glob_nil _ _) Try.func28 (by kernel_rfl) (by kernel_rfl) (fun w _ => loopsOK_nil _) (r_field_closed)) fun _ _ => field_closed_tot _ _ _ _ _
theorem k_field_closed {w0 : World}  : SoundAt Try.prog w0 28 ct_field_closed :=
  s_field_closed (k_field_last)

def ct_field_Elem_Add : Ct := tct (.cons (.ints .u64 5) (.one (.ints .u64 5))) (.ints .u64 5) fun x => field_Elem_Add x.1 x.2
def cs_field_Elem_Add : List (FuncId × Ct) := [(11, ct_field_Elem_Least), (27, ct_field_Elem_slim), (28, ct_field_closed)]
def gs_field_Elem_Add : List Gv := []
noncomputable def ls_field_Elem_Add : List (Nat × Lf) := []
theorem r_field_Elem_Add : ∀ x, run Try.prog (fun g => lkG g (cs_field_Elem_Add)) (glAt gs_field_Elem_Add 0) gs_field_Elem_Add.length (memAt gs_field_Elem_Add 0) (fun i => lkL i (ls_field_Elem_Add)) 100 Try.f9 (Ag.mk ((.cons (.ints .u64 5) (.one (.ints .u64 5)))) x) none (Pt.get ((.ints .u64 5))) = field_Elem_Add_o x.1 x.2 := by
  intro x; kernel_rfl
theorem s_field_Elem_Add {w0 : World}  (h11 : SoundAt Try.prog w0 11 ct_field_Elem_Least) (h27 : SoundAt Try.prog w0 27 ct_field_Elem_slim) (h28 : SoundAt Try.prog w0 28 ct_field_closed) : SoundAt Try.prog w0 9 ct_field_Elem_Add := by
  have hcs : ∀ x ∈ cs_field_Elem_Add, SoundAt Try.prog w0 x.1 x.2 := by
    intro x hx
    simp only [cs_field_Elem_Add, List.mem_cons, List.not_mem_nil, or_false] at hx
    rcases hx with rfl | rfl | rfl
    · exact h11
    · exact h27
    · exact h28
  exact sound_tct (fn_printed hcs (glob_nil _ _) Try.func9 (by kernel_rfl) (by kernel_rfl) (fun w _ => loopsOK_nil _) (r_field_Elem_Add)) fun _ _ => field_Elem_Add_tot _ _
theorem k_field_Elem_Add {w0 : World}  : SoundAt Try.prog w0 9 ct_field_Elem_Add :=
  s_field_Elem_Add (k_field_Elem_Least) (k_field_Elem_slim) (k_field_closed)

def ct_field_Elem_Sub : Ct := tct (.cons (.ints .u64 5) (.one (.ints .u64 5))) (.ints .u64 5) fun x => field_Elem_Sub x.1 x.2
def cs_field_Elem_Sub : List (FuncId × Ct) := [(11, ct_field_Elem_Least), (27, ct_field_Elem_slim), (28, ct_field_closed)]
def gs_field_Elem_Sub : List Gv := []
noncomputable def ls_field_Elem_Sub : List (Nat × Lf) := []
theorem r_field_Elem_Sub : ∀ x, run Try.prog (fun g => lkG g (cs_field_Elem_Sub)) (glAt gs_field_Elem_Sub 0) gs_field_Elem_Sub.length (memAt gs_field_Elem_Sub 0) (fun i => lkL i (ls_field_Elem_Sub)) 100 Try.f12 (Ag.mk ((.cons (.ints .u64 5) (.one (.ints .u64 5)))) x) none (Pt.get ((.ints .u64 5))) = field_Elem_Sub_o x.1 x.2 := by
  intro x; kernel_rfl
theorem s_field_Elem_Sub {w0 : World}  (h11 : SoundAt Try.prog w0 11 ct_field_Elem_Least) (h27 : SoundAt Try.prog w0 27 ct_field_Elem_slim) (h28 : SoundAt Try.prog w0 28 ct_field_closed) : SoundAt Try.prog w0 12 ct_field_Elem_Sub := by
  have hcs : ∀ x ∈ cs_field_Elem_Sub, SoundAt Try.prog w0 x.1 x.2 := by
    intro x hx
    simp only [cs_field_Elem_Sub, List.mem_cons, List.not_mem_nil, or_false] at hx
    rcases hx with rfl | rfl | rfl
    · exact h11
    · exact h27
    · exact h28
  exact sound_tct (fn_printed hcs (glob_nil _ _) Try.func12 (by kernel_rfl) (by kernel_rfl) (fun w _ => loopsOK_nil _) (r_field_Elem_Sub)) fun _ _ => field_Elem_Sub_tot _ _
theorem k_field_Elem_Sub {w0 : World}  : SoundAt Try.prog w0 12 ct_field_Elem_Sub :=
  s_field_Elem_Sub (k_field_Elem_Least) (k_field_Elem_slim) (k_field_closed)

def ct_field_Elem_Neg : Ct := tct (.one (.ints .u64 5)) (.ints .u64 5) fun x => field_Elem_Neg x
def cs_field_Elem_Neg : List (FuncId × Ct) := [(12, ct_field_Elem_Sub)]
def gs_field_Elem_Neg : List Gv := []
noncomputable def ls_field_Elem_Neg : List (Nat × Lf) := []
theorem r_field_Elem_Neg : ∀ x, run Try.prog (fun g => lkG g (cs_field_Elem_Neg)) (glAt gs_field_Elem_Neg 0) gs_field_Elem_Neg.length (memAt gs_field_Elem_Neg 0) (fun i => lkL i (ls_field_Elem_Neg)) 100 Try.f13 (Ag.mk ((.one (.ints .u64 5))) x) none (Pt.get ((.ints .u64 5))) = some (field_Elem_Neg x) := by
  intro x; kernel_rfl
theorem s_field_Elem_Neg {w0 : World}  (h12 : SoundAt Try.prog w0 12 ct_field_Elem_Sub) : SoundAt Try.prog w0 13 ct_field_Elem_Neg := by
  have hcs : ∀ x ∈ cs_field_Elem_Neg, SoundAt Try.prog w0 x.1 x.2 := by
    intro x hx
    simp only [cs_field_Elem_Neg, List.mem_cons, List.not_mem_nil, or_false] at hx
    rcases hx with rfl
    · exact h12
  exact sound_tct (fn_printed hcs (glob_nil _ _) Try.func13 (by kernel_rfl) (by kernel_rfl) (fun w _ => loopsOK_nil _) (r_field_Elem_Neg)) fun _ _ => rfl
theorem k_field_Elem_Neg {w0 : World}  : SoundAt Try.prog w0 13 ct_field_Elem_Neg :=
  s_field_Elem_Neg (k_field_Elem_Sub)

def ct_bits_Mul64 : Ct := tct (.cons (.int .u64) (.one (.int .u64))) (.tup (.cons (.int .u64) (.one (.int .u64)))) fun x => bits_Mul64 x.1 x.2
def cs_bits_Mul64 : List (FuncId × Ct) := []
def gs_bits_Mul64 : List Gv := []
noncomputable def ls_bits_Mul64 : List (Nat × Lf) := []
theorem r_bits_Mul64 : ∀ x, run Try.prog (fun g => lkG g (cs_bits_Mul64)) (glAt gs_bits_Mul64 0) gs_bits_Mul64.length (memAt gs_bits_Mul64 0) (fun i => lkL i (ls_bits_Mul64)) 100 Try.f37 (Ag.mk ((.cons (.int .u64) (.one (.int .u64)))) x) none (Pt.get ((.tup (.cons (.int .u64) (.one (.int .u64)))))) = some (bits_Mul64 x.1 x.2) := by
  intro x; kernel_rfl
theorem s_bits_Mul64 {w0 : World}  : SoundAt Try.prog w0 37 ct_bits_Mul64 := by
  have hcs : ∀ x ∈ cs_bits_Mul64, SoundAt Try.prog w0 x.1 x.2 := by
    intro x hx
    simp [cs_bits_Mul64] at hx
  exact sound_tct (fn_printed hcs (glob_nil _ _) Try.func37 (by kernel_rfl) (by kernel_rfl) (fun w _ => loopsOK_nil _) (r_bits_Mul64)) fun _ _ => rfl
theorem k_bits_Mul64 {w0 : World}  : SoundAt Try.prog w0 37 ct_bits_Mul64 :=
  s_bits_Mul64

def ct_field_double_plus : Ct := fct (.cons (.agg (.cons (.int .u64) (.one (.int .u64)))) (.cons (.int .u64) (.one (.int .u64)))) (.agg (.cons (.int .u64) (.one (.int .u64)))) fun x => field_double_plus x.1 x.2.1 x.2.2
def cs_field_double_plus : List (FuncId × Ct) := [(37, ct_bits_Mul64), (38, ct_bits_Add64)]
def gs_field_double_plus : List Gv := []
noncomputable def ls_field_double_plus : List (Nat × Lf) := []
theorem r_field_double_plus : ∀ x, run Try.prog (fun g => lkG g (cs_field_double_plus)) (glAt gs_field_double_plus 0) gs_field_double_plus.length (memAt gs_field_double_plus 0) (fun i => lkL i (ls_field_double_plus)) 100 Try.f29 (Ag.mk ((.cons (.agg (.cons (.int .u64) (.one (.int .u64)))) (.cons (.int .u64) (.one (.int .u64))))) x) none (Pt.get ((.agg (.cons (.int .u64) (.one (.int .u64)))))) = field_double_plus x.1 x.2.1 x.2.2 := by
  intro x; kernel_rfl
theorem s_field_double_plus {w0 : World}  (h37 : SoundAt Try.prog w0 37 ct_bits_Mul64) (h38 : SoundAt Try.prog w0 38 ct_bits_Add64) : SoundAt Try.prog w0 29 ct_field_double_plus := by
  have hcs : ∀ x ∈ cs_field_double_plus, SoundAt Try.prog w0 x.1 x.2 := by
    intro x hx
    simp only [cs_field_double_plus, List.mem_cons, List.not_mem_nil, or_false] at hx
    rcases hx with rfl | rfl
    · exact h37
    · exact h38
  exact fn_printed hcs (glob_nil _ _) Try.func29 (by kernel_rfl) (by kernel_rfl) (fun w _ => loopsOK_nil _) (r_field_double_plus)
theorem k_field_double_plus {w0 : World}  : SoundAt Try.prog w0 29 ct_field_double_plus :=
  s_field_double_plus (k_bits_Mul64) (k_bits_Add64)

def ct_field_double_over : Ct := tct (.one (.agg (.cons (.int .u64) (.one (.int .u64))))) (.int .u64) fun x => field_double_over x
def cs_field_double_over : List (FuncId × Ct) := []
def gs_field_double_over : List Gv := []
noncomputable def ls_field_double_over : List (Nat × Lf) := []
theorem r_field_double_over : ∀ x, run Try.prog (fun g => lkG g (cs_field_double_over)) (glAt gs_field_double_over 0) gs_field_double_over.length (memAt gs_field_double_over 0) (fun i => lkL i (ls_field_double_over)) 100 Try.f39 (Ag.mk ((.one (.agg (.cons (.int .u64) (.one (.int .u64)))))) x) none (Pt.get ((.int .u64))) = some (field_double_over x) := by
  intro x; kernel_rfl
theorem s_field_double_over {w0 : World}  : SoundAt Try.prog w0 39 ct_field_double_over := by
  have hcs : ∀ x ∈ cs_field_double_over, SoundAt Try.prog w0 x.1 x.2 := by
    intro x hx
    simp [cs_field_double_over] at hx
  exact sound_tct (fn_printed hcs (glob_nil _ _) Try.func39 (by kernel_rfl) (by kernel_rfl) (fun w _ => loopsOK_nil _) (r_field_double_over)) fun _ _ => rfl
theorem k_field_double_over {w0 : World}  : SoundAt Try.prog w0 39 ct_field_double_over :=
  s_field_double_over

def ct_field_carried : Ct := fct (.cons (.agg (.cons (.int .u64) (.one (.int .u64)))) (.cons (.agg (.cons (.int .u64) (.one (.int .u64)))) (.cons (.agg (.cons (.int .u64) (.one (.int .u64)))) (.cons (.agg (.cons (.int .u64) (.one (.int .u64)))) (.one (.agg (.cons (.int .u64) (.one (.int .u64))))))))) (.ints .u64 5) fun x => field_carried x.1 x.2.1 x.2.2.1 x.2.2.2.1 x.2.2.2.2
def cs_field_carried : List (FuncId × Ct) := [(28, ct_field_closed), (29, ct_field_double_plus), (39, ct_field_double_over)]
def gs_field_carried : List Gv := []
noncomputable def ls_field_carried : List (Nat × Lf) := []
theorem r_field_carried : ∀ x, run Try.prog (fun g => lkG g (cs_field_carried)) (glAt gs_field_carried 0) gs_field_carried.length (memAt gs_field_carried 0) (fun i => lkL i (ls_field_carried)) 100 Try.f30 (Ag.mk ((.cons (.agg (.cons (.int .u64) (.one (.int .u64)))) (.cons (.agg (.cons (.int .u64) (.one (.int .u64)))) (.cons (.agg (.cons (.int .u64) (.one (.int .u64)))) (.cons (.agg (.cons (.int .u64) (.one (.int .u64)))) (.one (.agg (.cons (.int .u64) (.one (.int .u64)))))))))) x) none (Pt.get ((.ints .u64 5))) = field_carried x.1 x.2.1 x.2.2.1 x.2.2.2.1 x.2.2.2.2 := by
  intro x; kernel_rfl
theorem s_field_carried {w0 : World}  (h28 : SoundAt Try.prog w0 28 ct_field_closed) (h29 : SoundAt Try.prog w0 29 ct_field_double_plus) (h39 : SoundAt Try.prog w0 39 ct_field_double_over) : SoundAt Try.prog w0 30 ct_field_carried := by
  have hcs : ∀ x ∈ cs_field_carried, SoundAt Try.prog w0 x.1 x.2 := by
    intro x hx
    simp only [cs_field_carried, List.mem_cons, List.not_mem_nil, or_false] at hx
    rcases hx with rfl | rfl | rfl
    · exact h28
    · exact h29
    · exact h39
  exact fn_printed hcs (glob_nil _ _) Try.func30 (by kernel_rfl) (by kernel_rfl) (fun w _ => loopsOK_nil _) (r_field_carried)
theorem k_field_carried {w0 : World}  : SoundAt Try.prog w0 30 ct_field_carried :=
  s_field_carried (k_field_closed) (k_field_double_plus) (k_field_double_over)

def ct_field_Elem_Mul : Ct := fct (.cons (.ints .u64 5) (.one (.ints .u64 5))) (.ints .u64 5) fun x => field_Elem_Mul x.1 x.2
def cs_field_Elem_Mul : List (FuncId × Ct) := [(11, ct_field_Elem_Least), (27, ct_field_Elem_slim), (29, ct_field_double_plus), (30, ct_field_carried)]
def gs_field_Elem_Mul : List Gv := []
noncomputable def ls_field_Elem_Mul : List (Nat × Lf) := []
theorem r_field_Elem_Mul : ∀ x, run Try.prog (fun g => lkG g (cs_field_Elem_Mul)) (glAt gs_field_Elem_Mul 0) gs_field_Elem_Mul.length (memAt gs_field_Elem_Mul 0) (fun i => lkL i (ls_field_Elem_Mul)) 100 Try.f10 (Ag.mk ((.cons (.ints .u64 5) (.one (.ints .u64 5)))) x) none (Pt.get ((.ints .u64 5))) = field_Elem_Mul x.1 x.2 := by
  intro x; kernel_rfl
theorem s_field_Elem_Mul {w0 : World}  (h11 : SoundAt Try.prog w0 11 ct_field_Elem_Least) (h27 : SoundAt Try.prog w0 27 ct_field_Elem_slim) (h29 : SoundAt Try.prog w0 29 ct_field_double_plus) (h30 : SoundAt Try.prog w0 30 ct_field_carried) : SoundAt Try.prog w0 10 ct_field_Elem_Mul := by
  have hcs : ∀ x ∈ cs_field_Elem_Mul, SoundAt Try.prog w0 x.1 x.2 := by
    intro x hx
    simp only [cs_field_Elem_Mul, List.mem_cons, List.not_mem_nil, or_false] at hx
    rcases hx with rfl | rfl | rfl | rfl
    · exact h11
    · exact h27
    · exact h29
    · exact h30
  exact fn_printed hcs (glob_nil _ _) Try.func10 (by kernel_rfl) (by kernel_rfl) (fun w _ => loopsOK_nil _) (r_field_Elem_Mul)
theorem k_field_Elem_Mul {w0 : World}  : SoundAt Try.prog w0 10 ct_field_Elem_Mul :=
  s_field_Elem_Mul (k_field_Elem_Least) (k_field_Elem_slim) (k_field_double_plus) (k_field_carried)

def ct_field_Elem_Square : Ct := fct (.one (.ints .u64 5)) (.ints .u64 5) fun x => field_Elem_Square x
def cs_field_Elem_Square : List (FuncId × Ct) := [(11, ct_field_Elem_Least), (27, ct_field_Elem_slim), (29, ct_field_double_plus), (30, ct_field_carried)]
def gs_field_Elem_Square : List Gv := []
noncomputable def ls_field_Elem_Square : List (Nat × Lf) := []
theorem r_field_Elem_Square : ∀ x, run Try.prog (fun g => lkG g (cs_field_Elem_Square)) (glAt gs_field_Elem_Square 0) gs_field_Elem_Square.length (memAt gs_field_Elem_Square 0) (fun i => lkL i (ls_field_Elem_Square)) 100 Try.f14 (Ag.mk ((.one (.ints .u64 5))) x) none (Pt.get ((.ints .u64 5))) = field_Elem_Square x := by
  intro x; kernel_rfl
theorem s_field_Elem_Square {w0 : World}  (h11 : SoundAt Try.prog w0 11 ct_field_Elem_Least) (h27 : SoundAt Try.prog w0 27 ct_field_Elem_slim) (h29 : SoundAt Try.prog w0 29 ct_field_double_plus) (h30 : SoundAt Try.prog w0 30 ct_field_carried) : SoundAt Try.prog w0 14 ct_field_Elem_Square := by
  have hcs : ∀ x ∈ cs_field_Elem_Square, SoundAt Try.prog w0 x.1 x.2 := by
    intro x hx
    simp only [cs_field_Elem_Square, List.mem_cons, List.not_mem_nil, or_false] at hx
    rcases hx with rfl | rfl | rfl | rfl
    · exact h11
    · exact h27
    · exact h29
    · exact h30
  exact fn_printed hcs (glob_nil _ _) Try.func14 (by kernel_rfl) (by kernel_rfl) (fun w _ => loopsOK_nil _) (r_field_Elem_Square)
theorem k_field_Elem_Square {w0 : World}  : SoundAt Try.prog w0 14 ct_field_Elem_Square :=
  s_field_Elem_Square (k_field_Elem_Least) (k_field_Elem_slim) (k_field_double_plus) (k_field_carried)

def ct_field_load : Ct := tct (.one (.ints .u8 32)) (.ints .u64 5) fun x => field_load x
def cs_field_load : List (FuncId × Ct) := []
def gs_field_load : List Gv := []
noncomputable def ls_field_load : List (Nat × Lf) := []
theorem r_field_load : ∀ x, run Try.prog (fun g => lkG g (cs_field_load)) (glAt gs_field_load 0) gs_field_load.length (memAt gs_field_load 0) (fun i => lkL i (ls_field_load)) 100 Try.f34 (Ag.mk ((.one (.ints .u8 32))) x) none (Pt.get ((.ints .u64 5))) = some (field_load x) := by
  intro x; kernel_rfl
theorem s_field_load {w0 : World}  : SoundAt Try.prog w0 34 ct_field_load := by
  have hcs : ∀ x ∈ cs_field_load, SoundAt Try.prog w0 x.1 x.2 := by
    intro x hx
    simp [cs_field_load] at hx
  exact sound_tct (fn_printed hcs (glob_nil _ _) Try.func34 (by kernel_rfl) (by kernel_rfl) (fun w _ => loopsOK_nil _) (r_field_load)) fun _ _ => rfl
theorem k_field_load {w0 : World}  : SoundAt Try.prog w0 34 ct_field_load :=
  s_field_load

def ct_field_Decode : Ct := tct (.one (.ints .u8 32)) (.tup (.cons (.ints .u64 5) (.one (.int .i64)))) fun x => field_Decode x
def cs_field_Decode : List (FuncId × Ct) := [(11, ct_field_Elem_Least), (34, ct_field_load)]
def gs_field_Decode : List Gv := []
noncomputable def ls_field_Decode : List (Nat × Lf) := []
theorem r_field_Decode : ∀ x, run Try.prog (fun g => lkG g (cs_field_Decode)) (glAt gs_field_Decode 0) gs_field_Decode.length (memAt gs_field_Decode 0) (fun i => lkL i (ls_field_Decode)) 100 Try.f20 (Ag.mk ((.one (.ints .u8 32))) x) none (Pt.get ((.tup (.cons (.ints .u64 5) (.one (.int .i64)))))) = field_Decode_o x := by
  intro x; kernel_rfl
theorem s_field_Decode {w0 : World}  (h11 : SoundAt Try.prog w0 11 ct_field_Elem_Least) (h34 : SoundAt Try.prog w0 34 ct_field_load) : SoundAt Try.prog w0 20 ct_field_Decode := by
  have hcs : ∀ x ∈ cs_field_Decode, SoundAt Try.prog w0 x.1 x.2 := by
    intro x hx
    simp only [cs_field_Decode, List.mem_cons, List.not_mem_nil, or_false] at hx
    rcases hx with rfl | rfl
    · exact h11
    · exact h34
  exact sound_tct (fn_printed hcs (glob_nil _ _) Try.func20 (by kernel_rfl) (by kernel_rfl) (fun w _ => loopsOK_nil _) (r_field_Decode)) fun _ _ => field_Decode_tot _
theorem k_field_Decode {w0 : World}  : SoundAt Try.prog w0 20 ct_field_Decode :=
  s_field_Decode (k_field_Elem_Least) (k_field_load)

def ct_field_Reduce : Ct := tct (.one (.ints .u8 32)) (.ints .u64 5) fun x => field_Reduce x
def cs_field_Reduce : List (FuncId × Ct) := [(11, ct_field_Elem_Least), (34, ct_field_load)]
def gs_field_Reduce : List Gv := []
noncomputable def ls_field_Reduce : List (Nat × Lf) := []
theorem r_field_Reduce : ∀ x, run Try.prog (fun g => lkG g (cs_field_Reduce)) (glAt gs_field_Reduce 0) gs_field_Reduce.length (memAt gs_field_Reduce 0) (fun i => lkL i (ls_field_Reduce)) 100 Try.f23 (Ag.mk ((.one (.ints .u8 32))) x) none (Pt.get ((.ints .u64 5))) = some (field_Reduce x) := by
  intro x; kernel_rfl
theorem s_field_Reduce {w0 : World}  (h11 : SoundAt Try.prog w0 11 ct_field_Elem_Least) (h34 : SoundAt Try.prog w0 34 ct_field_load) : SoundAt Try.prog w0 23 ct_field_Reduce := by
  have hcs : ∀ x ∈ cs_field_Reduce, SoundAt Try.prog w0 x.1 x.2 := by
    intro x hx
    simp only [cs_field_Reduce, List.mem_cons, List.not_mem_nil, or_false] at hx
    rcases hx with rfl | rfl
    · exact h11
    · exact h34
  exact sound_tct (fn_printed hcs (glob_nil _ _) Try.func23 (by kernel_rfl) (by kernel_rfl) (fun w _ => loopsOK_nil _) (r_field_Reduce)) fun _ _ => rfl
theorem k_field_Reduce {w0 : World}  : SoundAt Try.prog w0 23 ct_field_Reduce :=
  s_field_Reduce (k_field_Elem_Least) (k_field_load)

def ct_field_Elem_Encode : Ct := tct (.one (.ints .u64 5)) (.ints .u8 32) fun x => field_Elem_Encode x
def cs_field_Elem_Encode : List (FuncId × Ct) := [(11, ct_field_Elem_Least)]
def gs_field_Elem_Encode : List Gv := []
noncomputable def ls_field_Elem_Encode : List (Nat × Lf) := []
theorem r_field_Elem_Encode : ∀ x, run Try.prog (fun g => lkG g (cs_field_Elem_Encode)) (glAt gs_field_Elem_Encode 0) gs_field_Elem_Encode.length (memAt gs_field_Elem_Encode 0) (fun i => lkL i (ls_field_Elem_Encode)) 100 Try.f21 (Ag.mk ((.one (.ints .u64 5))) x) none (Pt.get ((.ints .u8 32))) = some (field_Elem_Encode x) := by
  intro x; kernel_rfl
theorem s_field_Elem_Encode {w0 : World}  (h11 : SoundAt Try.prog w0 11 ct_field_Elem_Least) : SoundAt Try.prog w0 21 ct_field_Elem_Encode := by
  have hcs : ∀ x ∈ cs_field_Elem_Encode, SoundAt Try.prog w0 x.1 x.2 := by
    intro x hx
    simp only [cs_field_Elem_Encode, List.mem_cons, List.not_mem_nil, or_false] at hx
    rcases hx with rfl
    · exact h11
  exact sound_tct (fn_printed hcs (glob_nil _ _) Try.func21 (by kernel_rfl) (by kernel_rfl) (fun w _ => loopsOK_nil _) (r_field_Elem_Encode)) fun _ _ => rfl
theorem k_field_Elem_Encode {w0 : World}  : SoundAt Try.prog w0 21 ct_field_Elem_Encode :=
  s_field_Elem_Encode (k_field_Elem_Least)

def ct_field_Elem_squares (N : Nat) : Ct := fct (.cons (.ints .u64 5) (.one (.int .i64))) (.ints .u64 5) fun x => field_Elem_squares N x.1 x.2
def cs_field_Elem_squares (N : Nat) : List (FuncId × Ct) := [(14, ct_field_Elem_Square)]
def gs_field_Elem_squares : List Gv := []
def field_Elem_squares_l0_H : Fm ((Unit × Unit × Int × Int)) ((List Int × Unit)) := ⟨(.cons 2 (.lit (.ptr 0 [] 24)) (.cons 4 (.lit (.ptr 1 [] 24)) (.cons 5 (.int .i64) (.one 6 (.int .i64))))), (.cons 0 (.ints .u64 5) (.one 1 (.lit (.ints .u64 5 [0, 0, 0, 0, 0]))))⟩
def field_Elem_squares_l0_O : Fm ((Unit × Unit)) ((List Int × Unit)) := ⟨(.cons 2 (.lit (.ptr 0 [] 24)) (.one 4 (.lit (.ptr 1 [] 24)))), (.cons 0 (.ints .u64 5) (.one 1 (.lit (.ints .u64 5 [0, 0, 0, 0, 0]))))⟩
def field_Elem_squares_l0_T : Fm (Unit) (Unit) := ⟨.nil, .nil⟩
noncomputable def ls_field_Elem_squares (N : Nat) : List (Nat × Lf) := [(0, loopCt field_Elem_squares_l0_H field_Elem_squares_l0_O field_Elem_squares_l0_T 4 (field_Elem_squares_l0 N) N)]
theorem field_Elem_squares_l0_step (N : Nat) : ∀ v, exec Try.prog (cxOf Try.f33 (cs_field_Elem_squares N) gs_field_Elem_squares) (fun i => lkL i (ls_field_Elem_squares N)) 100 none (loopBody Try.f33 0) (field_Elem_squares_l0_H.st 4 v) (rdEnd field_Elem_squares_l0_H field_Elem_squares_l0_O field_Elem_squares_l0_T 0) = field_Elem_squares_l0 N v := by
  intro v; kernel_rfl
theorem r_field_Elem_squares (N : Nat) : ∀ x, run Try.prog (fun g => lkG g (cs_field_Elem_squares N)) (glAt gs_field_Elem_squares 0) gs_field_Elem_squares.length (memAt gs_field_Elem_squares 0) (fun i => lkL i (ls_field_Elem_squares N)) 100 Try.f33 (Ag.mk ((.cons (.ints .u64 5) (.one (.int .i64)))) x) none (Pt.get ((.ints .u64 5))) = field_Elem_squares N x.1 x.2 := by
  intro x; kernel_rfl
theorem s_field_Elem_squares {w0 : World} (N : Nat)  (h14 : SoundAt Try.prog w0 14 ct_field_Elem_Square) : SoundAt Try.prog w0 33 (ct_field_Elem_squares N) := by
  have hcs : ∀ x ∈ cs_field_Elem_squares N, SoundAt Try.prog w0 x.1 x.2 := by
    intro x hx
    simp only [cs_field_Elem_squares, List.mem_cons, List.not_mem_nil, or_false] at hx
    rcases hx with rfl
    · exact h14
  have L0 : ∀ w, RowKit.Below w0.heap.size w0 w → LoopOK Try.prog (cxOf Try.f33 (cs_field_Elem_squares N) gs_field_Elem_squares) w 0 (.loop (loopBody Try.f33 0)) (loopCt field_Elem_squares_l0_H field_Elem_squares_l0_O field_Elem_squares_l0_T 4 (field_Elem_squares_l0 N) N) :=
    loop_printed hcs (ls := ls_field_Elem_squares N) (n := 100) (by kernel_rfl) (field_Elem_squares_l0_step N) N fun w hw => loopsOK_list (by
      intro x hx
      simp only [ls_field_Elem_squares, List.mem_cons, List.not_mem_nil, or_false] at hx
      rcases hx with rfl
      · exact .inl (by kernel_rfl)
    )
  exact fn_printed hcs (glob_nil _ _) Try.func33 (by kernel_rfl) (by kernel_rfl) (fun w hw => loopsOK_list (by
    intro x hx
    simp only [ls_field_Elem_squares, List.mem_cons, List.not_mem_nil, or_false] at hx
    rcases hx with rfl
    · exact .inr ⟨_, by kernel_rfl, L0 w hw⟩
  )) (r_field_Elem_squares N)
theorem k_field_Elem_squares {w0 : World} (N : Nat)  : SoundAt Try.prog w0 33 (ct_field_Elem_squares N) :=
  s_field_Elem_squares N (k_field_Elem_Square)

def ct_field_Elem_ones (N : Nat) : Ct := fct (.one (.ints .u64 5)) (.tup (.cons (.ints .u64 5) (.one (.ints .u64 5)))) fun x => field_Elem_ones N x
def cs_field_Elem_ones (N : Nat) : List (FuncId × Ct) := [(10, ct_field_Elem_Mul), (14, ct_field_Elem_Square), (33, (ct_field_Elem_squares N))]
def gs_field_Elem_ones : List Gv := []
noncomputable def ls_field_Elem_ones (N : Nat) : List (Nat × Lf) := []
theorem r_field_Elem_ones (N : Nat) : ∀ x, run Try.prog (fun g => lkG g (cs_field_Elem_ones N)) (glAt gs_field_Elem_ones 0) gs_field_Elem_ones.length (memAt gs_field_Elem_ones 0) (fun i => lkL i (ls_field_Elem_ones N)) 100 Try.f32 (Ag.mk ((.one (.ints .u64 5))) x) none (Pt.get ((.tup (.cons (.ints .u64 5) (.one (.ints .u64 5)))))) = field_Elem_ones N x := by
  intro x; kernel_rfl
theorem s_field_Elem_ones {w0 : World} (N : Nat)  (h10 : SoundAt Try.prog w0 10 ct_field_Elem_Mul) (h14 : SoundAt Try.prog w0 14 ct_field_Elem_Square) (h33 : SoundAt Try.prog w0 33 (ct_field_Elem_squares N)) : SoundAt Try.prog w0 32 (ct_field_Elem_ones N) := by
  have hcs : ∀ x ∈ cs_field_Elem_ones N, SoundAt Try.prog w0 x.1 x.2 := by
    intro x hx
    simp only [cs_field_Elem_ones, List.mem_cons, List.not_mem_nil, or_false] at hx
    rcases hx with rfl | rfl | rfl
    · exact h10
    · exact h14
    · exact h33
  exact fn_printed hcs (glob_nil _ _) Try.func32 (by kernel_rfl) (by kernel_rfl) (fun w _ => loopsOK_nil _) (r_field_Elem_ones N)
theorem k_field_Elem_ones {w0 : World} (N : Nat)  : SoundAt Try.prog w0 32 (ct_field_Elem_ones N) :=
  s_field_Elem_ones N (k_field_Elem_Mul) (k_field_Elem_Square) (k_field_Elem_squares N)

def ct_field_Elem_Invert (N : Nat) : Ct := fct (.one (.ints .u64 5)) (.ints .u64 5) fun x => field_Elem_Invert N x
def cs_field_Elem_Invert (N : Nat) : List (FuncId × Ct) := [(10, ct_field_Elem_Mul), (32, (ct_field_Elem_ones N)), (33, (ct_field_Elem_squares N))]
def gs_field_Elem_Invert : List Gv := []
noncomputable def ls_field_Elem_Invert (N : Nat) : List (Nat × Lf) := []
theorem r_field_Elem_Invert (N : Nat) : ∀ x, run Try.prog (fun g => lkG g (cs_field_Elem_Invert N)) (glAt gs_field_Elem_Invert 0) gs_field_Elem_Invert.length (memAt gs_field_Elem_Invert 0) (fun i => lkL i (ls_field_Elem_Invert N)) 100 Try.f15 (Ag.mk ((.one (.ints .u64 5))) x) none (Pt.get ((.ints .u64 5))) = field_Elem_Invert N x := by
  intro x; kernel_rfl
theorem s_field_Elem_Invert {w0 : World} (N : Nat)  (h10 : SoundAt Try.prog w0 10 ct_field_Elem_Mul) (h32 : SoundAt Try.prog w0 32 (ct_field_Elem_ones N)) (h33 : SoundAt Try.prog w0 33 (ct_field_Elem_squares N)) : SoundAt Try.prog w0 15 (ct_field_Elem_Invert N) := by
  have hcs : ∀ x ∈ cs_field_Elem_Invert N, SoundAt Try.prog w0 x.1 x.2 := by
    intro x hx
    simp only [cs_field_Elem_Invert, List.mem_cons, List.not_mem_nil, or_false] at hx
    rcases hx with rfl | rfl | rfl
    · exact h10
    · exact h32
    · exact h33
  exact fn_printed hcs (glob_nil _ _) Try.func15 (by kernel_rfl) (by kernel_rfl) (fun w _ => loopsOK_nil _) (r_field_Elem_Invert N)
theorem k_field_Elem_Invert {w0 : World} (N : Nat)  : SoundAt Try.prog w0 15 (ct_field_Elem_Invert N) :=
  s_field_Elem_Invert N (k_field_Elem_Mul) (k_field_Elem_ones N) (k_field_Elem_squares N)

def ct_field_Elem_One : Ct := tct (.one (.ints .u64 5)) (.ints .u64 5) fun x => field_Elem_One x
def cs_field_Elem_One : List (FuncId × Ct) := []
def gs_field_Elem_One : List Gv := []
noncomputable def ls_field_Elem_One : List (Nat × Lf) := []
theorem r_field_Elem_One : ∀ x, run Try.prog (fun g => lkG g (cs_field_Elem_One)) (glAt gs_field_Elem_One 0) gs_field_Elem_One.length (memAt gs_field_Elem_One 0) (fun i => lkL i (ls_field_Elem_One)) 100 Try.f8 (Ag.mk ((.one (.ints .u64 5))) x) none (Pt.get ((.ints .u64 5))) = some (field_Elem_One x) := by
  intro x; kernel_rfl
theorem s_field_Elem_One {w0 : World}  : SoundAt Try.prog w0 8 ct_field_Elem_One := by
  have hcs : ∀ x ∈ cs_field_Elem_One, SoundAt Try.prog w0 x.1 x.2 := by
    intro x hx
    simp [cs_field_Elem_One] at hx
  exact sound_tct (fn_printed hcs (glob_nil _ _) Try.func8 (by kernel_rfl) (by kernel_rfl) (fun w _ => loopsOK_nil _) (r_field_Elem_One)) fun _ _ => rfl
theorem k_field_Elem_One {w0 : World}  : SoundAt Try.prog w0 8 ct_field_Elem_One :=
  s_field_Elem_One

def ct_field_Int : Ct := tct (.one (.int .u64)) (.ints .u64 5) fun x => field_Int x
def cs_field_Int : List (FuncId × Ct) := [(11, ct_field_Elem_Least)]
def gs_field_Int : List Gv := []
noncomputable def ls_field_Int : List (Nat × Lf) := []
theorem r_field_Int : ∀ x, run Try.prog (fun g => lkG g (cs_field_Int)) (glAt gs_field_Int 0) gs_field_Int.length (memAt gs_field_Int 0) (fun i => lkL i (ls_field_Int)) 100 Try.f26 (Ag.mk ((.one (.int .u64))) x) none (Pt.get ((.ints .u64 5))) = some (field_Int x) := by
  intro x; kernel_rfl
theorem s_field_Int {w0 : World}  (h11 : SoundAt Try.prog w0 11 ct_field_Elem_Least) : SoundAt Try.prog w0 26 ct_field_Int := by
  have hcs : ∀ x ∈ cs_field_Int, SoundAt Try.prog w0 x.1 x.2 := by
    intro x hx
    simp only [cs_field_Int, List.mem_cons, List.not_mem_nil, or_false] at hx
    rcases hx with rfl
    · exact h11
  exact sound_tct (fn_printed hcs (glob_nil _ _) Try.func26 (by kernel_rfl) (by kernel_rfl) (fun w _ => loopsOK_nil _) (r_field_Int)) fun _ _ => rfl
theorem k_field_Int {w0 : World}  : SoundAt Try.prog w0 26 ct_field_Int :=
  s_field_Int (k_field_Elem_Least)

def ct_field_Elem_Same : Ct := tct (.cons (.ints .u64 5) (.one (.ints .u64 5))) .bool fun x => field_Elem_Same x.1 x.2
def cs_field_Elem_Same : List (FuncId × Ct) := [(11, ct_field_Elem_Least)]
def gs_field_Elem_Same : List Gv := []
noncomputable def ls_field_Elem_Same : List (Nat × Lf) := []
theorem r_field_Elem_Same : ∀ x, run Try.prog (fun g => lkG g (cs_field_Elem_Same)) (glAt gs_field_Elem_Same 0) gs_field_Elem_Same.length (memAt gs_field_Elem_Same 0) (fun i => lkL i (ls_field_Elem_Same)) 100 Try.f22 (Ag.mk ((.cons (.ints .u64 5) (.one (.ints .u64 5)))) x) none (Pt.get (.bool)) = some (field_Elem_Same x.1 x.2) := by
  intro x; kernel_rfl
theorem s_field_Elem_Same {w0 : World}  (h11 : SoundAt Try.prog w0 11 ct_field_Elem_Least) : SoundAt Try.prog w0 22 ct_field_Elem_Same := by
  have hcs : ∀ x ∈ cs_field_Elem_Same, SoundAt Try.prog w0 x.1 x.2 := by
    intro x hx
    simp only [cs_field_Elem_Same, List.mem_cons, List.not_mem_nil, or_false] at hx
    rcases hx with rfl
    · exact h11
  exact sound_tct (fn_printed hcs (glob_nil _ _) Try.func22 (by kernel_rfl) (by kernel_rfl) (fun w _ => loopsOK_nil _) (r_field_Elem_Same)) fun _ _ => rfl
theorem k_field_Elem_Same {w0 : World}  : SoundAt Try.prog w0 22 ct_field_Elem_Same :=
  s_field_Elem_Same (k_field_Elem_Least)

def ct_field_Elem_IsZero : Ct := tct (.one (.ints .u64 5)) .bool fun x => field_Elem_IsZero x
def cs_field_Elem_IsZero : List (FuncId × Ct) := [(11, ct_field_Elem_Least)]
def gs_field_Elem_IsZero : List Gv := []
noncomputable def ls_field_Elem_IsZero : List (Nat × Lf) := []
theorem r_field_Elem_IsZero : ∀ x, run Try.prog (fun g => lkG g (cs_field_Elem_IsZero)) (glAt gs_field_Elem_IsZero 0) gs_field_Elem_IsZero.length (memAt gs_field_Elem_IsZero 0) (fun i => lkL i (ls_field_Elem_IsZero)) 100 Try.f16 (Ag.mk ((.one (.ints .u64 5))) x) none (Pt.get (.bool)) = some (field_Elem_IsZero x) := by
  intro x; kernel_rfl
theorem s_field_Elem_IsZero {w0 : World}  (h11 : SoundAt Try.prog w0 11 ct_field_Elem_Least) : SoundAt Try.prog w0 16 ct_field_Elem_IsZero := by
  have hcs : ∀ x ∈ cs_field_Elem_IsZero, SoundAt Try.prog w0 x.1 x.2 := by
    intro x hx
    simp only [cs_field_Elem_IsZero, List.mem_cons, List.not_mem_nil, or_false] at hx
    rcases hx with rfl
    · exact h11
  exact sound_tct (fn_printed hcs (glob_nil _ _) Try.func16 (by kernel_rfl) (by kernel_rfl) (fun w _ => loopsOK_nil _) (r_field_Elem_IsZero)) fun _ _ => rfl
theorem k_field_Elem_IsZero {w0 : World}  : SoundAt Try.prog w0 16 ct_field_Elem_IsZero :=
  s_field_Elem_IsZero (k_field_Elem_Least)

def ct_field_Elem_Negative : Ct := tct (.one (.ints .u64 5)) .bool fun x => field_Elem_Negative x
def cs_field_Elem_Negative : List (FuncId × Ct) := [(11, ct_field_Elem_Least)]
def gs_field_Elem_Negative : List Gv := []
noncomputable def ls_field_Elem_Negative : List (Nat × Lf) := []
theorem r_field_Elem_Negative : ∀ x, run Try.prog (fun g => lkG g (cs_field_Elem_Negative)) (glAt gs_field_Elem_Negative 0) gs_field_Elem_Negative.length (memAt gs_field_Elem_Negative 0) (fun i => lkL i (ls_field_Elem_Negative)) 100 Try.f24 (Ag.mk ((.one (.ints .u64 5))) x) none (Pt.get (.bool)) = some (field_Elem_Negative x) := by
  intro x; kernel_rfl
theorem s_field_Elem_Negative {w0 : World}  (h11 : SoundAt Try.prog w0 11 ct_field_Elem_Least) : SoundAt Try.prog w0 24 ct_field_Elem_Negative := by
  have hcs : ∀ x ∈ cs_field_Elem_Negative, SoundAt Try.prog w0 x.1 x.2 := by
    intro x hx
    simp only [cs_field_Elem_Negative, List.mem_cons, List.not_mem_nil, or_false] at hx
    rcases hx with rfl
    · exact h11
  exact sound_tct (fn_printed hcs (glob_nil _ _) Try.func24 (by kernel_rfl) (by kernel_rfl) (fun w _ => loopsOK_nil _) (r_field_Elem_Negative)) fun _ _ => rfl
theorem k_field_Elem_Negative {w0 : World}  : SoundAt Try.prog w0 24 ct_field_Elem_Negative :=
  s_field_Elem_Negative (k_field_Elem_Least)

def ct_field_Select : Ct := tct (.cons (.int .i64) (.cons (.ints .u64 5) (.one (.ints .u64 5)))) (.ints .u64 5) fun x => field_Select x.1 x.2.1 x.2.2
def cs_field_Select : List (FuncId × Ct) := [(11, ct_field_Elem_Least)]
def gs_field_Select : List Gv := []
noncomputable def ls_field_Select : List (Nat × Lf) := []
theorem r_field_Select : ∀ x, run Try.prog (fun g => lkG g (cs_field_Select)) (glAt gs_field_Select 0) gs_field_Select.length (memAt gs_field_Select 0) (fun i => lkL i (ls_field_Select)) 100 Try.f35 (Ag.mk ((.cons (.int .i64) (.cons (.ints .u64 5) (.one (.ints .u64 5))))) x) none (Pt.get ((.ints .u64 5))) = some (field_Select x.1 x.2.1 x.2.2) := by
  intro x; kernel_rfl
theorem s_field_Select {w0 : World}  (h11 : SoundAt Try.prog w0 11 ct_field_Elem_Least) : SoundAt Try.prog w0 35 ct_field_Select := by
  have hcs : ∀ x ∈ cs_field_Select, SoundAt Try.prog w0 x.1 x.2 := by
    intro x hx
    simp only [cs_field_Select, List.mem_cons, List.not_mem_nil, or_false] at hx
    rcases hx with rfl
    · exact h11
  exact sound_tct (fn_printed hcs (glob_nil _ _) Try.func35 (by kernel_rfl) (by kernel_rfl) (fun w _ => loopsOK_nil _) (r_field_Select)) fun _ _ => rfl
theorem k_field_Select {w0 : World}  : SoundAt Try.prog w0 35 ct_field_Select :=
  s_field_Select (k_field_Elem_Least)

def ct_field_Elem_Abs : Ct := tct (.one (.ints .u64 5)) (.ints .u64 5) fun x => field_Elem_Abs x
def cs_field_Elem_Abs : List (FuncId × Ct) := [(11, ct_field_Elem_Least), (13, ct_field_Elem_Neg), (35, ct_field_Select)]
def gs_field_Elem_Abs : List Gv := []
noncomputable def ls_field_Elem_Abs : List (Nat × Lf) := []
theorem r_field_Elem_Abs : ∀ x, run Try.prog (fun g => lkG g (cs_field_Elem_Abs)) (glAt gs_field_Elem_Abs 0) gs_field_Elem_Abs.length (memAt gs_field_Elem_Abs 0) (fun i => lkL i (ls_field_Elem_Abs)) 100 Try.f25 (Ag.mk ((.one (.ints .u64 5))) x) none (Pt.get ((.ints .u64 5))) = some (field_Elem_Abs x) := by
  intro x; kernel_rfl
theorem s_field_Elem_Abs {w0 : World}  (h11 : SoundAt Try.prog w0 11 ct_field_Elem_Least) (h13 : SoundAt Try.prog w0 13 ct_field_Elem_Neg) (h35 : SoundAt Try.prog w0 35 ct_field_Select) : SoundAt Try.prog w0 25 ct_field_Elem_Abs := by
  have hcs : ∀ x ∈ cs_field_Elem_Abs, SoundAt Try.prog w0 x.1 x.2 := by
    intro x hx
    simp only [cs_field_Elem_Abs, List.mem_cons, List.not_mem_nil, or_false] at hx
    rcases hx with rfl | rfl | rfl
    · exact h11
    · exact h13
    · exact h35
  exact sound_tct (fn_printed hcs (glob_nil _ _) Try.func25 (by kernel_rfl) (by kernel_rfl) (fun w _ => loopsOK_nil _) (r_field_Elem_Abs)) fun _ _ => rfl
theorem k_field_Elem_Abs {w0 : World}  : SoundAt Try.prog w0 25 ct_field_Elem_Abs :=
  s_field_Elem_Abs (k_field_Elem_Least) (k_field_Elem_Neg) (k_field_Select)

def ct_veillaw01_live (N : Nat) : Ct := fct .nil .bool fun x => veillaw01_live N
def cs_veillaw01_live (N : Nat) : List (FuncId × Ct) := [(9, ct_field_Elem_Add), (10, ct_field_Elem_Mul), (15, (ct_field_Elem_Invert N)), (26, ct_field_Int)]
def gs_veillaw01_live : List Gv := []
noncomputable def ls_veillaw01_live (N : Nat) : List (Nat × Lf) := []
theorem r_veillaw01_live (N : Nat) : ∀ x, run Try.prog (fun g => lkG g (cs_veillaw01_live N)) (glAt gs_veillaw01_live 0) gs_veillaw01_live.length (memAt gs_veillaw01_live 0) (fun i => lkL i (ls_veillaw01_live N)) 100 Try.f7 (Ag.mk (.nil) x) none (Pt.get (.bool)) = veillaw01_live N := by
  intro x; kernel_rfl
theorem s_veillaw01_live {w0 : World} (N : Nat)  (h9 : SoundAt Try.prog w0 9 ct_field_Elem_Add) (h10 : SoundAt Try.prog w0 10 ct_field_Elem_Mul) (h15 : SoundAt Try.prog w0 15 (ct_field_Elem_Invert N)) (h26 : SoundAt Try.prog w0 26 ct_field_Int) : SoundAt Try.prog w0 7 (ct_veillaw01_live N) := by
  have hcs : ∀ x ∈ cs_veillaw01_live N, SoundAt Try.prog w0 x.1 x.2 := by
    intro x hx
    simp only [cs_veillaw01_live, List.mem_cons, List.not_mem_nil, or_false] at hx
    rcases hx with rfl | rfl | rfl | rfl
    · exact h9
    · exact h10
    · exact h15
    · exact h26
  exact fn_printed hcs (glob_nil _ _) Try.func7 (by kernel_rfl) (by kernel_rfl) (fun w _ => loopsOK_nil _) (r_veillaw01_live N)
theorem k_veillaw01_live {w0 : World} (N : Nat)  : SoundAt Try.prog w0 7 (ct_veillaw01_live N) :=
  s_veillaw01_live N (k_field_Elem_Add) (k_field_Elem_Mul) (k_field_Elem_Invert N) (k_field_Int)

def ct_veillaw01_least : Ct := tct (.one (.ints .u64 5)) .bool fun x => veillaw01_least x
def cs_veillaw01_least : List (FuncId × Ct) := []
def gs_veillaw01_least : List Gv := []
noncomputable def ls_veillaw01_least : List (Nat × Lf) := []
theorem r_veillaw01_least : ∀ x, run Try.prog (fun g => lkG g (cs_veillaw01_least)) (glAt gs_veillaw01_least 0) gs_veillaw01_least.length (memAt gs_veillaw01_least 0) (fun i => lkL i (ls_veillaw01_least)) 100 Try.f17 (Ag.mk ((.one (.ints .u64 5))) x) none (Pt.get (.bool)) = veillaw01_least_o x := by
  intro x; kernel_rfl
theorem s_veillaw01_least {w0 : World}  : SoundAt Try.prog w0 17 ct_veillaw01_least := by
  have hcs : ∀ x ∈ cs_veillaw01_least, SoundAt Try.prog w0 x.1 x.2 := by
    intro x hx
    simp [cs_veillaw01_least] at hx
  exact sound_tct (fn_printed hcs (glob_nil _ _) Try.func17 (by kernel_rfl) (by kernel_rfl) (fun w _ => loopsOK_nil _) (r_veillaw01_least)) fun _ _ => veillaw01_least_tot _
theorem k_veillaw01_least {w0 : World}  : SoundAt Try.prog w0 17 ct_veillaw01_least :=
  s_veillaw01_least

def ct_veillaw01_FieldSigns (N : Nat) : Ct := fct (.one (.ints .u64 5)) .bool fun x => veillaw01_FieldSigns N x
def cs_veillaw01_FieldSigns (N : Nat) : List (FuncId × Ct) := [(7, (ct_veillaw01_live N)), (11, ct_field_Elem_Least), (13, ct_field_Elem_Neg), (16, ct_field_Elem_IsZero), (21, ct_field_Elem_Encode), (24, ct_field_Elem_Negative), (25, ct_field_Elem_Abs)]
def gs_veillaw01_FieldSigns : List Gv := []
noncomputable def ls_veillaw01_FieldSigns (N : Nat) : List (Nat × Lf) := []
theorem r_veillaw01_FieldSigns (N : Nat) : ∀ x, run Try.prog (fun g => lkG g (cs_veillaw01_FieldSigns N)) (glAt gs_veillaw01_FieldSigns 0) gs_veillaw01_FieldSigns.length (memAt gs_veillaw01_FieldSigns 0) (fun i => lkL i (ls_veillaw01_FieldSigns N)) 100 Try.f6 (Ag.mk ((.one (.ints .u64 5))) x) none (Pt.get (.bool)) = veillaw01_FieldSigns N x := by
  intro x; kernel_rfl
theorem s_veillaw01_FieldSigns {w0 : World} (N : Nat)  (h7 : SoundAt Try.prog w0 7 (ct_veillaw01_live N)) (h11 : SoundAt Try.prog w0 11 ct_field_Elem_Least) (h13 : SoundAt Try.prog w0 13 ct_field_Elem_Neg) (h16 : SoundAt Try.prog w0 16 ct_field_Elem_IsZero) (h21 : SoundAt Try.prog w0 21 ct_field_Elem_Encode) (h24 : SoundAt Try.prog w0 24 ct_field_Elem_Negative) (h25 : SoundAt Try.prog w0 25 ct_field_Elem_Abs) : SoundAt Try.prog w0 6 (ct_veillaw01_FieldSigns N) := by
  have hcs : ∀ x ∈ cs_veillaw01_FieldSigns N, SoundAt Try.prog w0 x.1 x.2 := by
    intro x hx
    simp only [cs_veillaw01_FieldSigns, List.mem_cons, List.not_mem_nil, or_false] at hx
    rcases hx with rfl | rfl | rfl | rfl | rfl | rfl | rfl
    · exact h7
    · exact h11
    · exact h13
    · exact h16
    · exact h21
    · exact h24
    · exact h25
  exact fn_printed hcs (glob_nil _ _) Try.func6 (by kernel_rfl) (by kernel_rfl) (fun w _ => loopsOK_nil _) (r_veillaw01_FieldSigns N)
theorem k_veillaw01_FieldSigns {w0 : World} (N : Nat)  : SoundAt Try.prog w0 6 (ct_veillaw01_FieldSigns N) :=
  s_veillaw01_FieldSigns N (k_veillaw01_live N) (k_field_Elem_Least) (k_field_Elem_Neg) (k_field_Elem_IsZero) (k_field_Elem_Encode) (k_field_Elem_Negative) (k_field_Elem_Abs)

def ct_veillaw01_FieldLaws (N : Nat) : Ct := fct (.cons (.ints .u64 5) (.cons (.ints .u64 5) (.one (.ints .u64 5)))) .bool fun x => veillaw01_FieldLaws N x.1 x.2.1 x.2.2
def cs_veillaw01_FieldLaws (N : Nat) : List (FuncId × Ct) := [(7, (ct_veillaw01_live N)), (8, ct_field_Elem_One), (9, ct_field_Elem_Add), (10, ct_field_Elem_Mul), (11, ct_field_Elem_Least), (12, ct_field_Elem_Sub), (13, ct_field_Elem_Neg), (14, ct_field_Elem_Square), (15, (ct_field_Elem_Invert N)), (16, ct_field_Elem_IsZero), (17, ct_veillaw01_least)]
def gs_veillaw01_FieldLaws : List Gv := []
noncomputable def ls_veillaw01_FieldLaws (N : Nat) : List (Nat × Lf) := []
theorem r_veillaw01_FieldLaws (N : Nat) : ∀ x, run Try.prog (fun g => lkG g (cs_veillaw01_FieldLaws N)) (glAt gs_veillaw01_FieldLaws 0) gs_veillaw01_FieldLaws.length (memAt gs_veillaw01_FieldLaws 0) (fun i => lkL i (ls_veillaw01_FieldLaws N)) 100 Try.f3 (Ag.mk ((.cons (.ints .u64 5) (.cons (.ints .u64 5) (.one (.ints .u64 5))))) x) none (Pt.get (.bool)) = veillaw01_FieldLaws N x.1 x.2.1 x.2.2 := by
  intro x; kernel_rfl
theorem s_veillaw01_FieldLaws {w0 : World} (N : Nat)  (h7 : SoundAt Try.prog w0 7 (ct_veillaw01_live N)) (h8 : SoundAt Try.prog w0 8 ct_field_Elem_One) (h9 : SoundAt Try.prog w0 9 ct_field_Elem_Add) (h10 : SoundAt Try.prog w0 10 ct_field_Elem_Mul) (h11 : SoundAt Try.prog w0 11 ct_field_Elem_Least) (h12 : SoundAt Try.prog w0 12 ct_field_Elem_Sub) (h13 : SoundAt Try.prog w0 13 ct_field_Elem_Neg) (h14 : SoundAt Try.prog w0 14 ct_field_Elem_Square) (h15 : SoundAt Try.prog w0 15 (ct_field_Elem_Invert N)) (h16 : SoundAt Try.prog w0 16 ct_field_Elem_IsZero) (h17 : SoundAt Try.prog w0 17 ct_veillaw01_least) : SoundAt Try.prog w0 3 (ct_veillaw01_FieldLaws N) := by
  have hcs : ∀ x ∈ cs_veillaw01_FieldLaws N, SoundAt Try.prog w0 x.1 x.2 := by
    intro x hx
    simp only [cs_veillaw01_FieldLaws, List.mem_cons, List.not_mem_nil, or_false] at hx
    rcases hx with rfl | rfl | rfl | rfl | rfl | rfl | rfl | rfl | rfl | rfl | rfl
    · exact h7
    · exact h8
    · exact h9
    · exact h10
    · exact h11
    · exact h12
    · exact h13
    · exact h14
    · exact h15
    · exact h16
    · exact h17
  exact fn_printed hcs (glob_nil _ _) Try.func3 (by kernel_rfl) (by kernel_rfl) (fun w _ => loopsOK_nil _) (r_veillaw01_FieldLaws N)
theorem k_veillaw01_FieldLaws {w0 : World} (N : Nat)  : SoundAt Try.prog w0 3 (ct_veillaw01_FieldLaws N) :=
  s_veillaw01_FieldLaws N (k_veillaw01_live N) (k_field_Elem_One) (k_field_Elem_Add) (k_field_Elem_Mul) (k_field_Elem_Least) (k_field_Elem_Sub) (k_field_Elem_Neg) (k_field_Elem_Square) (k_field_Elem_Invert N) (k_field_Elem_IsZero) (k_veillaw01_least)

def ct_field_Elem_Power (N : Nat) : Ct := fct (.cons (.ints .u64 5) (.one (.ints .u8 32))) (.ints .u64 5) fun x => field_Elem_Power N x.1 x.2
def cs_field_Elem_Power (N : Nat) : List (FuncId × Ct) := [(8, ct_field_Elem_One), (10, ct_field_Elem_Mul), (14, ct_field_Elem_Square)]
def gs_field_Elem_Power : List Gv := []
def field_Elem_Power_l0_H : Fm ((Unit × Unit × Unit × Unit × Int)) ((List Int × List Int × Unit × List Int)) := ⟨(.cons 2 (.lit (.ptr 0 [] 24)) (.cons 3 (.lit (.ptr 1 [] 31)) (.cons 4 (.lit (.ptr 2 [] 24)) (.cons 5 (.lit (.ptr 5 [] 24)) (.one 6 (.int .i64)))))), (.cons 0 (.ints .u64 5) (.cons 1 (.ints .u8 32) (.cons 2 (.lit (.ints .u64 5 [0, 0, 0, 0, 0])) (.one 5 (.ints .u64 5)))))⟩
def field_Elem_Power_l0_O : Fm ((Unit × Unit)) ((Unit × List Int)) := ⟨(.cons 4 (.lit (.ptr 2 [] 24)) (.one 5 (.lit (.ptr 5 [] 24)))), (.cons 2 (.lit (.ints .u64 5 [0, 0, 0, 0, 0])) (.one 5 (.ints .u64 5)))⟩
def field_Elem_Power_l0_T : Fm (Unit) (Unit) := ⟨.nil, .nil⟩
noncomputable def ls_field_Elem_Power (N : Nat) : List (Nat × Lf) := [(0, loopCt field_Elem_Power_l0_H field_Elem_Power_l0_O field_Elem_Power_l0_T 8 (field_Elem_Power_l0 N) N)]
theorem field_Elem_Power_l0_step (N : Nat) : ∀ v, exec Try.prog (cxOf Try.f18 (cs_field_Elem_Power N) gs_field_Elem_Power) (fun i => lkL i (ls_field_Elem_Power N)) 100 none (loopBody Try.f18 0) (field_Elem_Power_l0_H.st 8 v) (rdEnd field_Elem_Power_l0_H field_Elem_Power_l0_O field_Elem_Power_l0_T 0) = field_Elem_Power_l0 N v := by
  intro v; kernel_rfl
theorem r_field_Elem_Power (N : Nat) : ∀ x, run Try.prog (fun g => lkG g (cs_field_Elem_Power N)) (glAt gs_field_Elem_Power 0) gs_field_Elem_Power.length (memAt gs_field_Elem_Power 0) (fun i => lkL i (ls_field_Elem_Power N)) 100 Try.f18 (Ag.mk ((.cons (.ints .u64 5) (.one (.ints .u8 32)))) x) none (Pt.get ((.ints .u64 5))) = field_Elem_Power N x.1 x.2 := by
  intro x; kernel_rfl
theorem s_field_Elem_Power {w0 : World} (N : Nat)  (h8 : SoundAt Try.prog w0 8 ct_field_Elem_One) (h10 : SoundAt Try.prog w0 10 ct_field_Elem_Mul) (h14 : SoundAt Try.prog w0 14 ct_field_Elem_Square) : SoundAt Try.prog w0 18 (ct_field_Elem_Power N) := by
  have hcs : ∀ x ∈ cs_field_Elem_Power N, SoundAt Try.prog w0 x.1 x.2 := by
    intro x hx
    simp only [cs_field_Elem_Power, List.mem_cons, List.not_mem_nil, or_false] at hx
    rcases hx with rfl | rfl | rfl
    · exact h8
    · exact h10
    · exact h14
  have L0 : ∀ w, RowKit.Below w0.heap.size w0 w → LoopOK Try.prog (cxOf Try.f18 (cs_field_Elem_Power N) gs_field_Elem_Power) w 0 (.loop (loopBody Try.f18 0)) (loopCt field_Elem_Power_l0_H field_Elem_Power_l0_O field_Elem_Power_l0_T 8 (field_Elem_Power_l0 N) N) :=
    loop_printed hcs (ls := ls_field_Elem_Power N) (n := 100) (by kernel_rfl) (field_Elem_Power_l0_step N) N fun w hw => loopsOK_list (by
      intro x hx
      simp only [ls_field_Elem_Power, List.mem_cons, List.not_mem_nil, or_false] at hx
      rcases hx with rfl
      · exact .inl (by kernel_rfl)
    )
  exact fn_printed hcs (glob_nil _ _) Try.func18 (by kernel_rfl) (by kernel_rfl) (fun w hw => loopsOK_list (by
    intro x hx
    simp only [ls_field_Elem_Power, List.mem_cons, List.not_mem_nil, or_false] at hx
    rcases hx with rfl
    · exact .inr ⟨_, by kernel_rfl, L0 w hw⟩
  )) (r_field_Elem_Power N)
theorem k_field_Elem_Power {w0 : World} (N : Nat)  : SoundAt Try.prog w0 18 (ct_field_Elem_Power N) :=
  s_field_Elem_Power N (k_field_Elem_One) (k_field_Elem_Mul) (k_field_Elem_Square)

def ct_veillaw01_plus : Ct := tct (.cons (.ints .u8 32) (.one (.ints .u8 32))) (.tup (.cons (.ints .u8 32) (.one .bool))) fun x => veillaw01_plus x.1 x.2
def cs_veillaw01_plus : List (FuncId × Ct) := []
def gs_veillaw01_plus : List Gv := []
noncomputable def ls_veillaw01_plus : List (Nat × Lf) := []
theorem r_veillaw01_plus : ∀ x, run Try.prog (fun g => lkG g (cs_veillaw01_plus)) (glAt gs_veillaw01_plus 0) gs_veillaw01_plus.length (memAt gs_veillaw01_plus 0) (fun i => lkL i (ls_veillaw01_plus)) 100 Try.f19 (Ag.mk ((.cons (.ints .u8 32) (.one (.ints .u8 32)))) x) none (Pt.get ((.tup (.cons (.ints .u8 32) (.one .bool))))) = some (veillaw01_plus x.1 x.2) := by
  intro x; kernel_rfl
theorem s_veillaw01_plus {w0 : World}  : SoundAt Try.prog w0 19 ct_veillaw01_plus := by
  have hcs : ∀ x ∈ cs_veillaw01_plus, SoundAt Try.prog w0 x.1 x.2 := by
    intro x hx
    simp [cs_veillaw01_plus] at hx
  exact sound_tct (fn_printed hcs (glob_nil _ _) Try.func19 (by kernel_rfl) (by kernel_rfl) (fun w _ => loopsOK_nil _) (r_veillaw01_plus)) fun _ _ => rfl
theorem k_veillaw01_plus {w0 : World}  : SoundAt Try.prog w0 19 ct_veillaw01_plus :=
  s_veillaw01_plus

def ct_veillaw01_FieldExponents (N : Nat) : Ct := fct (.cons (.ints .u64 5) (.cons (.ints .u64 5) (.cons (.ints .u8 32) (.one (.ints .u8 32))))) .bool fun x => veillaw01_FieldExponents N x.1 x.2.1 x.2.2.1 x.2.2.2
def cs_veillaw01_FieldExponents (N : Nat) : List (FuncId × Ct) := [(7, (ct_veillaw01_live N)), (8, ct_field_Elem_One), (10, ct_field_Elem_Mul), (11, ct_field_Elem_Least), (15, (ct_field_Elem_Invert N)), (18, (ct_field_Elem_Power N)), (19, ct_veillaw01_plus)]
def gs_veillaw01_FieldExponents : List Gv := []
noncomputable def ls_veillaw01_FieldExponents (N : Nat) : List (Nat × Lf) := []
theorem r_veillaw01_FieldExponents (N : Nat) : ∀ x, run Try.prog (fun g => lkG g (cs_veillaw01_FieldExponents N)) (glAt gs_veillaw01_FieldExponents 0) gs_veillaw01_FieldExponents.length (memAt gs_veillaw01_FieldExponents 0) (fun i => lkL i (ls_veillaw01_FieldExponents N)) 100 Try.f4 (Ag.mk ((.cons (.ints .u64 5) (.cons (.ints .u64 5) (.cons (.ints .u8 32) (.one (.ints .u8 32)))))) x) none (Pt.get (.bool)) = veillaw01_FieldExponents N x.1 x.2.1 x.2.2.1 x.2.2.2 := by
  intro x; kernel_rfl
theorem s_veillaw01_FieldExponents {w0 : World} (N : Nat)  (h7 : SoundAt Try.prog w0 7 (ct_veillaw01_live N)) (h8 : SoundAt Try.prog w0 8 ct_field_Elem_One) (h10 : SoundAt Try.prog w0 10 ct_field_Elem_Mul) (h11 : SoundAt Try.prog w0 11 ct_field_Elem_Least) (h15 : SoundAt Try.prog w0 15 (ct_field_Elem_Invert N)) (h18 : SoundAt Try.prog w0 18 (ct_field_Elem_Power N)) (h19 : SoundAt Try.prog w0 19 ct_veillaw01_plus) : SoundAt Try.prog w0 4 (ct_veillaw01_FieldExponents N) := by
  have hcs : ∀ x ∈ cs_veillaw01_FieldExponents N, SoundAt Try.prog w0 x.1 x.2 := by
    intro x hx
    simp only [cs_veillaw01_FieldExponents, List.mem_cons, List.not_mem_nil, or_false] at hx
    rcases hx with rfl | rfl | rfl | rfl | rfl | rfl | rfl
    · exact h7
    · exact h8
    · exact h10
    · exact h11
    · exact h15
    · exact h18
    · exact h19
  exact fn_printed hcs (glob_nil _ _) Try.func4 (by kernel_rfl) (by kernel_rfl) (fun w _ => loopsOK_nil _) (r_veillaw01_FieldExponents N)
theorem k_veillaw01_FieldExponents {w0 : World} (N : Nat)  : SoundAt Try.prog w0 4 (ct_veillaw01_FieldExponents N) :=
  s_veillaw01_FieldExponents N (k_veillaw01_live N) (k_field_Elem_One) (k_field_Elem_Mul) (k_field_Elem_Least) (k_field_Elem_Invert N) (k_field_Elem_Power N) (k_veillaw01_plus)

def ct_veillaw01_FieldCodec (N : Nat) : Ct := fct (.cons (.ints .u64 5) (.cons (.ints .u64 5) (.one (.ints .u8 32)))) .bool fun x => veillaw01_FieldCodec N x.1 x.2.1 x.2.2
def cs_veillaw01_FieldCodec (N : Nat) : List (FuncId × Ct) := [(7, (ct_veillaw01_live N)), (9, ct_field_Elem_Add), (10, ct_field_Elem_Mul), (11, ct_field_Elem_Least), (20, ct_field_Decode), (21, ct_field_Elem_Encode), (22, ct_field_Elem_Same), (23, ct_field_Reduce)]
def gs_veillaw01_FieldCodec : List Gv := []
noncomputable def ls_veillaw01_FieldCodec (N : Nat) : List (Nat × Lf) := []
theorem r_veillaw01_FieldCodec (N : Nat) : ∀ x, run Try.prog (fun g => lkG g (cs_veillaw01_FieldCodec N)) (glAt gs_veillaw01_FieldCodec 0) gs_veillaw01_FieldCodec.length (memAt gs_veillaw01_FieldCodec 0) (fun i => lkL i (ls_veillaw01_FieldCodec N)) 100 Try.f5 (Ag.mk ((.cons (.ints .u64 5) (.cons (.ints .u64 5) (.one (.ints .u8 32))))) x) none (Pt.get (.bool)) = veillaw01_FieldCodec N x.1 x.2.1 x.2.2 := by
  intro x; kernel_rfl
theorem s_veillaw01_FieldCodec {w0 : World} (N : Nat)  (h7 : SoundAt Try.prog w0 7 (ct_veillaw01_live N)) (h9 : SoundAt Try.prog w0 9 ct_field_Elem_Add) (h10 : SoundAt Try.prog w0 10 ct_field_Elem_Mul) (h11 : SoundAt Try.prog w0 11 ct_field_Elem_Least) (h20 : SoundAt Try.prog w0 20 ct_field_Decode) (h21 : SoundAt Try.prog w0 21 ct_field_Elem_Encode) (h22 : SoundAt Try.prog w0 22 ct_field_Elem_Same) (h23 : SoundAt Try.prog w0 23 ct_field_Reduce) : SoundAt Try.prog w0 5 (ct_veillaw01_FieldCodec N) := by
  have hcs : ∀ x ∈ cs_veillaw01_FieldCodec N, SoundAt Try.prog w0 x.1 x.2 := by
    intro x hx
    simp only [cs_veillaw01_FieldCodec, List.mem_cons, List.not_mem_nil, or_false] at hx
    rcases hx with rfl | rfl | rfl | rfl | rfl | rfl | rfl | rfl
    · exact h7
    · exact h9
    · exact h10
    · exact h11
    · exact h20
    · exact h21
    · exact h22
    · exact h23
  exact fn_printed hcs (glob_nil _ _) Try.func5 (by kernel_rfl) (by kernel_rfl) (fun w _ => loopsOK_nil _) (r_veillaw01_FieldCodec N)
theorem k_veillaw01_FieldCodec {w0 : World} (N : Nat)  : SoundAt Try.prog w0 5 (ct_veillaw01_FieldCodec N) :=
  s_veillaw01_FieldCodec N (k_veillaw01_live N) (k_field_Elem_Add) (k_field_Elem_Mul) (k_field_Elem_Least) (k_field_Decode) (k_field_Elem_Encode) (k_field_Elem_Same) (k_field_Reduce)

end Go.Vx
