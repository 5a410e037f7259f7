/- Numbers, part P: the primes of this program. Written by program (from a table of generators). -/
import Derived.Test.YtoionfdfofmplaaGreatDoorVyN
import Derived.KernelRfl
set_option autoImplicit false
set_option linter.unusedVariables false
namespace Go.Vx
theorem pri_2:Pri 2:=ZbY 2 (by kernel_rfl)
theorem pri_3:Pri 3:=ZbY 2 (by kernel_rfl)
theorem pri_5:Pri 5:=ZbY 3 (by kernel_rfl)
theorem pri_7:Pri 7:=ZbY 3 (by kernel_rfl)
theorem pri_13:Pri 13:=ZbY 4 (by kernel_rfl)
theorem pri_19:Pri 19:=ZbY 5 (by kernel_rfl)
theorem pri_31:Pri 31:=ZbY 6 (by kernel_rfl)
theorem pri_43:Pri 43:=ZbY 7 (by kernel_rfl)
theorem pri_47:Pri 47:=ZbY 7 (by kernel_rfl)
theorem pri_97:Pri 97:=ZbY 10 (by kernel_rfl)
theorem pri_103:Pri 103:=ZbY 11 (by kernel_rfl)
theorem pri_107:Pri 107:=ZbY 11 (by kernel_rfl)
theorem pri_127:Pri 127:=ZbY 12 (by kernel_rfl)
theorem pri_131:Pri 131:=ZbY 12 (by kernel_rfl)
theorem pri_223:Pri 223:=ZbY 15 (by kernel_rfl)
theorem pri_353:Pri 353:=ZbY 19 (by kernel_rfl)
theorem pri_419:Pri 419:=ZbY 21 (by kernel_rfl)
theorem pri_991:Pri 991:=ZbY 32 (by kernel_rfl)
theorem ZIv:Pri 1723:=ZbY 42 (by kernel_rfl)
theorem ZIw:Pri 2437:=ZbY 50 (by kernel_rfl)
theorem ZIx:Pri 3727:=ZbY 62 (by kernel_rfl)
theorem ZIy:Pri 4153:=ZbY 65 (by kernel_rfl)
theorem ZG6:Pri 37853:=ZbY 195 (by kernel_rfl)
theorem ZG7:Pri 57467:=ZbY 240 (by kernel_rfl)
theorem ZG8:Pri 65147:=ZbY 256 (by kernel_rfl)
theorem ZFw:Pri 430751∧∀ a,a%430751≠0→a^(430751-1)%430751=1:=by
 refine ZiG (g:=17) (k:=20) (l:=[(2,1),(5,3),(1723,1)]) ?_ (by kernel_rfl);intro x hx;simp only[List.mem_cons,List.not_mem_nil,or_false] at hx;rcases hx with rfl|rfl|rfl
 ·exact pri_2
 ·exact pri_5
 ·exact ZIv
theorem Zub:Pri 31757755568855353∧∀ a,a%31757755568855353≠0→a^(31757755568855353-1)%31757755568855353=1:=by
 refine ZiG (g:=10) (k:=56) (l:=[(2,3),(3,1),(31,1),(107,1),(223,1),(4153,1),(430751,1)]) ?_ (by kernel_rfl);intro x hx;simp only[List.mem_cons,List.not_mem_nil,or_false] at hx;rcases hx with rfl|rfl|rfl|rfl|rfl|rfl|rfl
 ·exact pri_2
 ·exact pri_3
 ·exact pri_31
 ·exact pri_107
 ·exact pri_223
 ·exact ZIy
 ·exact ZFw.1
theorem ZFx:Pri 569003∧∀ a,a%569003≠0→a^(569003-1)%569003=1:=by
 refine ZiG (g:=2) (k:=21) (l:=[(2,1),(7,1),(97,1),(419,1)]) ?_ (by kernel_rfl);intro x hx;simp only[List.mem_cons,List.not_mem_nil,or_false] at hx;rcases hx with rfl|rfl|rfl|rfl
 ·exact pri_2
 ·exact pri_7
 ·exact pri_97
 ·exact pri_419
theorem ZAL:Pri 2773320623∧∀ a,a%2773320623≠0→a^(2773320623-1)%2773320623=1:=by
 refine ZiG (g:=5) (k:=33) (l:=[(2,1),(2437,1),(569003,1)]) ?_ (by kernel_rfl);intro x hx;simp only[List.mem_cons,List.not_mem_nil,or_false] at hx;rcases hx with rfl|rfl|rfl
 ·exact pri_2
 ·exact ZIw
 ·exact ZFx.1
theorem ZAi:Pri 72106336199∧∀ a,a%72106336199≠0→a^(72106336199-1)%72106336199=1:=by
 refine ZiG (g:=7) (k:=38) (l:=[(2,1),(13,1),(2773320623,1)]) ?_ (by kernel_rfl);intro x hx;simp only[List.mem_cons,List.not_mem_nil,or_false] at hx;rcases hx with rfl|rfl|rfl
 ·exact pri_2
 ·exact pri_13
 ·exact ZAL.1
theorem ZD0:Pri 8574133∧∀ a,a%8574133≠0→a^(8574133-1)%8574133=1:=by
 refine ZiG (g:=2) (k:=25) (l:=[(2,2),(3,1),(7,1),(103,1),(991,1)]) ?_ (by kernel_rfl);intro x hx;simp only[List.mem_cons,List.not_mem_nil,or_false] at hx;rcases hx with rfl|rfl|rfl|rfl|rfl
 ·exact pri_2
 ·exact pri_3
 ·exact pri_7
 ·exact pri_103
 ·exact pri_991
theorem ZuQ:Pri 1919519569386763∧∀ a,a%1919519569386763≠0→a^(1919519569386763-1)%1919519569386763=1:=by
 refine ZiG (g:=2) (k:=52) (l:=[(2,1),(3,1),(7,1),(19,1),(47,2),(127,1),(8574133,1)]) ?_ (by kernel_rfl);intro x hx;simp only[List.mem_cons,List.not_mem_nil,or_false] at hx;rcases hx with rfl|rfl|rfl|rfl|rfl|rfl|rfl
 ·exact pri_2
 ·exact pri_3
 ·exact pri_7
 ·exact pri_19
 ·exact pri_47
 ·exact pri_127
 ·exact ZD0.1
theorem ZG9:Pri 75707∧∀ a,a%75707≠0→a^(75707-1)%75707=1:=by
 refine ZiG (g:=2) (k:=18) (l:=[(2,1),(37853,1)]) ?_ (by kernel_rfl);intro x hx;simp only[List.mem_cons,List.not_mem_nil,or_false] at hx;rcases hx with rfl|rfl
 ·exact pri_2
 ·exact ZG6
theorem Zix:Pri 75445702479781427272750846543864801∧∀ a,a%75445702479781427272750846543864801≠0→a^(75445702479781427272750846543864801-1)%75445702479781427272750846543864801=1:=by
 refine ZiG (g:=7) (k:=117) (l:=[(72106336199,1),(1919519569386763,1),(2,5),(3,2),(5,2),(75707,1)]) ?_ (by kernel_rfl);intro x hx;simp only[List.mem_cons,List.not_mem_nil,or_false] at hx;rcases hx with rfl|rfl|rfl|rfl|rfl|rfl
 ·exact ZAi.1
 ·exact ZuQ.1
 ·exact pri_2
 ·exact pri_3
 ·exact pri_5
 ·exact ZG9.1
theorem ZFy:Pri 132049∧∀ a,a%132049≠0→a^(132049-1)%132049=1:=by
 refine ZiG (g:=26) (k:=19) (l:=[(2,4),(3,2),(7,1),(131,1)]) ?_ (by kernel_rfl);intro x hx;simp only[List.mem_cons,List.not_mem_nil,or_false] at hx;rcases hx with rfl|rfl|rfl|rfl
 ·exact pri_2
 ·exact pri_3
 ·exact pri_7
 ·exact pri_131
theorem ZD1:Pri 1923133∧∀ a,a%1923133≠0→a^(1923133-1)%1923133=1:=by
 refine ZiG (g:=2) (k:=22) (l:=[(2,2),(3,1),(43,1),(3727,1)]) ?_ (by kernel_rfl);intro x hx;simp only[List.mem_cons,List.not_mem_nil,or_false] at hx;rcases hx with rfl|rfl|rfl|rfl
 ·exact pri_2
 ·exact pri_3
 ·exact pri_43
 ·exact ZIx
theorem Zcd:Pri 74058212732561358302231226437062788676166966415465897661863160754340907∧∀ a,a%74058212732561358302231226437062788676166966415465897661863160754340907≠0→a^(74058212732561358302231226437062788676166966415465897661863160754340907-1)%74058212732561358302231226437062788676166966415465897661863160754340907=1:=by
 refine ZiG (g:=2) (k:=237) (l:=[(31757755568855353,1),(75445702479781427272750846543864801,1),(2,1),(3,1),(353,1),(57467,1),(132049,1),(1923133,1)]) ?_ (by kernel_rfl);intro x hx;simp only[List.mem_cons,List.not_mem_nil,or_false] at hx;rcases hx with rfl|rfl|rfl|rfl|rfl|rfl|rfl|rfl
 ·exact Zub.1
 ·exact Zix.1
 ·exact pri_2
 ·exact pri_3
 ·exact pri_353
 ·exact ZG7
 ·exact ZFy.1
 ·exact ZD1.1
theorem luc_F:Pri 57896044618658097711785492504343953926634992332820282019728792003956564819949∧∀ a,a%57896044618658097711785492504343953926634992332820282019728792003956564819949≠0→a^(57896044618658097711785492504343953926634992332820282019728792003956564819949-1)%57896044618658097711785492504343953926634992332820282019728792003956564819949=1:=by
 refine ZiG (g:=2) (k:=256) (l:=[(74058212732561358302231226437062788676166966415465897661863160754340907,1),(2,2),(3,1),(65147,1)]) ?_ (by kernel_rfl);intro x hx;simp only[List.mem_cons,List.not_mem_nil,or_false] at hx;rcases hx with rfl|rfl|rfl|rfl
 ·exact Zcd.1
 ·exact pri_2
 ·exact pri_3
 ·exact ZG8
end Go.Vx
