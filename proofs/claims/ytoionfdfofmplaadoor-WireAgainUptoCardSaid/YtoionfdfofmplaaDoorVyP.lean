/- Numbers, part P: the primes of this program. Written by program (from a table of generators). -/
import Derived.Test.YtoionfdfofmplaaDoorVyN
import Derived.KernelRfl
set_option autoImplicit false
namespace Go.Vx
theorem pri_2 : Pri 2 := Zba 2 (by kernel_rfl)
theorem pri_3 : Pri 3 := Zba 2 (by kernel_rfl)
theorem pri_5 : Pri 5 := Zba 3 (by kernel_rfl)
theorem pri_7 : Pri 7 := Zba 3 (by kernel_rfl)
theorem pri_13 : Pri 13 := Zba 4 (by kernel_rfl)
theorem pri_19 : Pri 19 := Zba 5 (by kernel_rfl)
theorem pri_31 : Pri 31 := Zba 6 (by kernel_rfl)
theorem pri_43 : Pri 43 := Zba 7 (by kernel_rfl)
theorem pri_47 : Pri 47 := Zba 7 (by kernel_rfl)
theorem pri_97 : Pri 97 := Zba 10 (by kernel_rfl)
theorem pri_103 : Pri 103 := Zba 11 (by kernel_rfl)
theorem pri_107 : Pri 107 := Zba 11 (by kernel_rfl)
theorem pri_127 : Pri 127 := Zba 12 (by kernel_rfl)
theorem pri_131 : Pri 131 := Zba 12 (by kernel_rfl)
theorem pri_223 : Pri 223 := Zba 15 (by kernel_rfl)
theorem pri_353 : Pri 353 := Zba 19 (by kernel_rfl)
theorem pri_419 : Pri 419 := Zba 21 (by kernel_rfl)
theorem pri_991 : Pri 991 := Zba 32 (by kernel_rfl)
theorem Zt2 : Pri 1723 := Zba 42 (by kernel_rfl)
theorem Zt3 : Pri 2437 := Zba 50 (by kernel_rfl)
theorem Zt4 : Pri 3727 := Zba 62 (by kernel_rfl)
theorem Zt5 : Pri 4153 := Zba 65 (by kernel_rfl)
theorem Zs6 : Pri 37853 := Zba 195 (by kernel_rfl)
theorem Zs7 : Pri 57467 := Zba 240 (by kernel_rfl)
theorem Zs8 : Pri 65147 := Zba 256 (by kernel_rfl)
theorem ZrJ : Pri 430751 ∧ ∀ a, a % 430751 ≠ 0 → a ^ (430751 - 1) % 430751 = 1 := by
 refine ZeL (g := 17) (k := 20) (l := [(2, 1), (5, 3), (1723, 1)]) ?_ (by kernel_rfl)
 intro x hx
 simp only [List.mem_cons, List.not_mem_nil, or_false] at hx
 rcases hx with rfl | rfl | rfl
 ·exact pri_2
 ·exact pri_5
 ·exact Zt2
theorem Zkq : Pri 31757755568855353 ∧ ∀ a, a % 31757755568855353 ≠ 0 → a ^ (31757755568855353 - 1) % 31757755568855353 = 1 := by
 refine ZeL (g := 10) (k := 56) (l := [(2, 3), (3, 1), (31, 1), (107, 1), (223, 1), (4153, 1), (430751, 1)]) ?_ (by kernel_rfl)
 intro x hx
 simp only [List.mem_cons, List.not_mem_nil, or_false] at hx
 rcases hx with rfl | rfl | rfl | rfl | rfl | rfl | rfl
 ·exact pri_2
 ·exact pri_3
 ·exact pri_31
 ·exact pri_107
 ·exact pri_223
 ·exact Zt5
 ·exact ZrJ.1
theorem ZrK : Pri 569003 ∧ ∀ a, a % 569003 ≠ 0 → a ^ (569003 - 1) % 569003 = 1 := by
 refine ZeL (g := 2) (k := 21) (l := [(2, 1), (7, 1), (97, 1), (419, 1)]) ?_ (by kernel_rfl)
 intro x hx
 simp only [List.mem_cons, List.not_mem_nil, or_false] at hx
 rcases hx with rfl | rfl | rfl | rfl
 ·exact pri_2
 ·exact pri_7
 ·exact pri_97
 ·exact pri_419
theorem ZnU : Pri 2773320623 ∧ ∀ a, a % 2773320623 ≠ 0 → a ^ (2773320623 - 1) % 2773320623 = 1 := by
 refine ZeL (g := 5) (k := 33) (l := [(2, 1), (2437, 1), (569003, 1)]) ?_ (by kernel_rfl)
 intro x hx
 simp only [List.mem_cons, List.not_mem_nil, or_false] at hx
 rcases hx with rfl | rfl | rfl
 ·exact pri_2
 ·exact Zt3
 ·exact ZrK.1
theorem ZnH : Pri 72106336199 ∧ ∀ a, a % 72106336199 ≠ 0 → a ^ (72106336199 - 1) % 72106336199 = 1 := by
 refine ZeL (g := 7) (k := 38) (l := [(2, 1), (13, 1), (2773320623, 1)]) ?_ (by kernel_rfl)
 intro x hx
 simp only [List.mem_cons, List.not_mem_nil, or_false] at hx
 rcases hx with rfl | rfl | rfl
 ·exact pri_2
 ·exact pri_13
 ·exact ZnU.1
theorem Zqx : Pri 8574133 ∧ ∀ a, a % 8574133 ≠ 0 → a ^ (8574133 - 1) % 8574133 = 1 := by
 refine ZeL (g := 2) (k := 25) (l := [(2, 2), (3, 1), (7, 1), (103, 1), (991, 1)]) ?_ (by kernel_rfl)
 intro x hx
 simp only [List.mem_cons, List.not_mem_nil, or_false] at hx
 rcases hx with rfl | rfl | rfl | rfl | rfl
 ·exact pri_2
 ·exact pri_3
 ·exact pri_7
 ·exact pri_103
 ·exact pri_991
theorem ZkH : Pri 1919519569386763 ∧ ∀ a, a % 1919519569386763 ≠ 0 → a ^ (1919519569386763 - 1) % 1919519569386763 = 1 := by
 refine ZeL (g := 2) (k := 52) (l := [(2, 1), (3, 1), (7, 1), (19, 1), (47, 2), (127, 1), (8574133, 1)]) ?_ (by kernel_rfl)
 intro x hx
 simp only [List.mem_cons, List.not_mem_nil, or_false] at hx
 rcases hx with rfl | rfl | rfl | rfl | rfl | rfl | rfl
 ·exact pri_2
 ·exact pri_3
 ·exact pri_7
 ·exact pri_19
 ·exact pri_47
 ·exact pri_127
 ·exact Zqx.1
theorem Zs9 : Pri 75707 ∧ ∀ a, a % 75707 ≠ 0 → a ^ (75707 - 1) % 75707 = 1 := by
 refine ZeL (g := 2) (k := 18) (l := [(2, 1), (37853, 1)]) ?_ (by kernel_rfl)
 intro x hx
 simp only [List.mem_cons, List.not_mem_nil, or_false] at hx
 rcases hx with rfl | rfl
 ·exact pri_2
 ·exact Zs6
theorem ZeF : Pri 75445702479781427272750846543864801 ∧ ∀ a, a % 75445702479781427272750846543864801 ≠ 0 → a ^ (75445702479781427272750846543864801 - 1) % 75445702479781427272750846543864801 = 1 := by
 refine ZeL (g := 7) (k := 117) (l := [(72106336199, 1), (1919519569386763, 1), (2, 5), (3, 2), (5, 2), (75707, 1)]) ?_ (by kernel_rfl)
 intro x hx
 simp only [List.mem_cons, List.not_mem_nil, or_false] at hx
 rcases hx with rfl | rfl | rfl | rfl | rfl | rfl
 ·exact ZnH.1
 ·exact ZkH.1
 ·exact pri_2
 ·exact pri_3
 ·exact pri_5
 ·exact Zs9.1
theorem ZrL : Pri 132049 ∧ ∀ a, a % 132049 ≠ 0 → a ^ (132049 - 1) % 132049 = 1 := by
 refine ZeL (g := 26) (k := 19) (l := [(2, 4), (3, 2), (7, 1), (131, 1)]) ?_ (by kernel_rfl)
 intro x hx
 simp only [List.mem_cons, List.not_mem_nil, or_false] at hx
 rcases hx with rfl | rfl | rfl | rfl
 ·exact pri_2
 ·exact pri_3
 ·exact pri_7
 ·exact pri_131
theorem Zqy : Pri 1923133 ∧ ∀ a, a % 1923133 ≠ 0 → a ^ (1923133 - 1) % 1923133 = 1 := by
 refine ZeL (g := 2) (k := 22) (l := [(2, 2), (3, 1), (43, 1), (3727, 1)]) ?_ (by kernel_rfl)
 intro x hx
 simp only [List.mem_cons, List.not_mem_nil, or_false] at hx
 rcases hx with rfl | rfl | rfl | rfl
 ·exact pri_2
 ·exact pri_3
 ·exact pri_43
 ·exact Zt4
theorem Zbp : Pri 74058212732561358302231226437062788676166966415465897661863160754340907 ∧ ∀ a, a % 74058212732561358302231226437062788676166966415465897661863160754340907 ≠ 0 → a ^ (74058212732561358302231226437062788676166966415465897661863160754340907 - 1) % 74058212732561358302231226437062788676166966415465897661863160754340907 = 1 := by
 refine ZeL (g := 2) (k := 237) (l := [(31757755568855353, 1), (75445702479781427272750846543864801, 1), (2, 1), (3, 1), (353, 1), (57467, 1), (132049, 1), (1923133, 1)]) ?_ (by kernel_rfl)
 intro x hx
 simp only [List.mem_cons, List.not_mem_nil, or_false] at hx
 rcases hx with rfl | rfl | rfl | rfl | rfl | rfl | rfl | rfl
 ·exact Zkq.1
 ·exact ZeF.1
 ·exact pri_2
 ·exact pri_3
 ·exact pri_353
 ·exact Zs7
 ·exact ZrL.1
 ·exact Zqy.1
theorem luc_F : Pri 57896044618658097711785492504343953926634992332820282019728792003956564819949 ∧ ∀ a, a % 57896044618658097711785492504343953926634992332820282019728792003956564819949 ≠ 0 → a ^ (57896044618658097711785492504343953926634992332820282019728792003956564819949 - 1) % 57896044618658097711785492504343953926634992332820282019728792003956564819949 = 1 := by
 refine ZeL (g := 2) (k := 256) (l := [(74058212732561358302231226437062788676166966415465897661863160754340907, 1), (2, 2), (3, 1), (65147, 1)]) ?_ (by kernel_rfl)
 intro x hx
 simp only [List.mem_cons, List.not_mem_nil, or_false] at hx
 rcases hx with rfl | rfl | rfl | rfl
 ·exact Zbp.1
 ·exact pri_2
 ·exact pri_3
 ·exact Zs8
end Go.Vx
