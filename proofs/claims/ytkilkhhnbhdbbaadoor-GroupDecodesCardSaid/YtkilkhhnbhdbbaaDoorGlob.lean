import Derived.Test.YtkilkhhnbhdbbaaDoorFw
import Derived.Test.YtkilkhhnbhdbbaaDoorRows
import Derived.Test.YtkilkhhnbhdbbaaDoorVxT
namespace Go.Vx
open Go Go.Proofs Go.RowKit
set_option linter.unusedVariables false

theorem flat24 : FlatAt Tryd.prog 24 := flat_int Tryd.underlying24 (by kernel_rfl)
theorem flat28 : FlatAt Tryd.prog 28 := flat_arr Tryd.underlying28 (by kernel_rfl) flat24
theorem flat98 : FlatAt Tryd.prog 98 := flat_arr Tryd.underlying98 (by kernel_rfl) flat28
theorem flat2 : FlatAt Tryd.prog 2 := flat_int Tryd.underlying2 (by kernel_rfl)
theorem flat38 : FlatAt Tryd.prog 38 := flat_arr Tryd.underlying38 (by kernel_rfl) flat2
theorem flat30 : FlatAt Tryd.prog 30 := flat_struct Tryd.underlying30 ⟨(by show _ = _; kernel_rfl), flat28, (by show _ = _; kernel_rfl), flat28, (by show _ = _; kernel_rfl), flat28, (by show _ = _; kernel_rfl), flat28, (by show _ = _; kernel_rfl)⟩
theorem flat32 : FlatAt Tryd.prog 32 := flat_struct Tryd.underlying32 ⟨(by show _ = _; kernel_rfl), flat30, (by show _ = _; kernel_rfl)⟩

theorem has_table : Has Tryd.prog (.rows 7 fun i => .ints .u64 5 (field_tab i)) 98 := ⟨28, Tryd.underlying98, fun i => ⟨24, Tryd.underlying28, Tryd.underlying24, by kernel_rfl, by kernel_rfl⟩, by kernel_rfl⟩
theorem row_table (i : Nat) : (field_tab i).length = 5 ∧ ∀ x ∈ field_tab i, IntKind.u64.min ≤ x ∧ x ≤ IntKind.u64.max := by
  match i with
  | 0 => exact ⟨rfl, by decide⟩
  | 1 => exact ⟨rfl, by decide⟩
  | 2 => exact ⟨rfl, by decide⟩
  | 3 => exact ⟨rfl, by decide⟩
  | 4 => exact ⟨rfl, by decide⟩
  | 5 => exact ⟨rfl, by decide⟩
  | 6 => exact ⟨rfl, by decide⟩
  | n + 7 => exact ⟨rfl, by
      show ∀ x ∈ ([0, 0, 0, 0, 0] : List Int), _
      decide⟩
theorem ok_table : OK Tryd.prog (fun _ => none) (.rows 7 fun i => .ints .u64 5 (field_tab i)) := by
  simp only [OK]
  exact fun i => row_table i
theorem glob_table {W : World} {g' : Nat} {t' : TypeId} {cs : Array Value} {fuel : Nat} {enc : TypeId × Value → Unit} {base : Nat} {sp : Nat → Bool} {held : Bool} {p : List MemPlace}
    (hg' : Tryd.prog.globalNamed "veil/field.table" = some g') (ht' : (Tryd.prog.globals[g']?).map (·.type) = some t') (hv : W.var? Tryd.prog "veil/field.table" = some cs)
    (hd : DataW.trod enc Tryd.prog W base sp held fuel t' cs.toList = some (YtkilkhhnbhdbbaaDoor.Rows.laid_veil_field_table, p)) : GlobOne Tryd.prog W ⟨1, 98, (.rows 7 fun i => .ints .u64 5 (field_tab i))⟩ :=
  glob_of (by kernel_rfl : Tryd.prog.globalNamed "veil/field.table" = some 1) hg' (by kernel_rfl : (Tryd.prog.globals[1]?).map (·.type) = some 98) ht' hv hd flat98 (by kernel_rfl) (by simp [YtkilkhhnbhdbbaaDoor.Rows.laid_veil_field_table, flatD, flatL]) has_table ok_table

theorem has_one : Has Tryd.prog (.ints .u64 5 [1, 0, 0, 0, 0]) 28 := has_of_chk _ _ _ (by kernel_rfl)
theorem ok_one : OK Tryd.prog (fun _ => none) (.ints .u64 5 [1, 0, 0, 0, 0]) := ⟨rfl, by decide⟩
theorem glob_one {W : World} {g' : Nat} {t' : TypeId} {cs : Array Value} {fuel : Nat} {enc : TypeId × Value → Unit} {base : Nat} {sp : Nat → Bool} {held : Bool} {p : List MemPlace}
    (hg' : Tryd.prog.globalNamed "veil/curve.one" = some g') (ht' : (Tryd.prog.globals[g']?).map (·.type) = some t') (hv : W.var? Tryd.prog "veil/curve.one" = some cs)
    (hd : DataW.trod enc Tryd.prog W base sp held fuel t' cs.toList = some (YtkilkhhnbhdbbaaDoor.Rows.laid_veil_curve_one, p)) : GlobOne Tryd.prog W ⟨3, 28, (.ints .u64 5 [1, 0, 0, 0, 0])⟩ :=
  glob_of (by kernel_rfl : Tryd.prog.globalNamed "veil/curve.one" = some 3) hg' (by kernel_rfl : (Tryd.prog.globals[3]?).map (·.type) = some 28) ht' hv hd flat28 (by kernel_rfl) (by simp [YtkilkhhnbhdbbaaDoor.Rows.laid_veil_curve_one, flatD, flatL]) has_one ok_one

theorem has_twice : Has Tryd.prog (.ints .u64 5 [1859910466990425, 932731440258426, 1072319116312658, 1815898335770999, 633789495995903]) 28 := has_of_chk _ _ _ (by kernel_rfl)
theorem ok_twice : OK Tryd.prog (fun _ => none) (.ints .u64 5 [1859910466990425, 932731440258426, 1072319116312658, 1815898335770999, 633789495995903]) := ⟨rfl, by decide⟩
theorem glob_twice {W : World} {g' : Nat} {t' : TypeId} {cs : Array Value} {fuel : Nat} {enc : TypeId × Value → Unit} {base : Nat} {sp : Nat → Bool} {held : Bool} {p : List MemPlace}
    (hg' : Tryd.prog.globalNamed "veil/curve.twice" = some g') (ht' : (Tryd.prog.globals[g']?).map (·.type) = some t') (hv : W.var? Tryd.prog "veil/curve.twice" = some cs)
    (hd : DataW.trod enc Tryd.prog W base sp held fuel t' cs.toList = some (YtkilkhhnbhdbbaaDoor.Rows.laid_veil_curve_twice, p)) : GlobOne Tryd.prog W ⟨6, 28, (.ints .u64 5 [1859910466990425, 932731440258426, 1072319116312658, 1815898335770999, 633789495995903])⟩ :=
  glob_of (by kernel_rfl : Tryd.prog.globalNamed "veil/curve.twice" = some 6) hg' (by kernel_rfl : (Tryd.prog.globals[6]?).map (·.type) = some 28) ht' hv hd flat28 (by kernel_rfl) (by simp [YtkilkhhnbhdbbaaDoor.Rows.laid_veil_curve_twice, flatD, flatL]) has_twice ok_twice

theorem has_Zero : Has Tryd.prog (.ints .i64 10 [0, 0, 0, 0, 0, 0, 0, 0, 0, 0]) 38 := has_of_chk _ _ _ (by kernel_rfl)
theorem ok_Zero : OK Tryd.prog (fun _ => none) (.ints .i64 10 [0, 0, 0, 0, 0, 0, 0, 0, 0, 0]) := ⟨rfl, by decide⟩
theorem glob_Zero {W : World} {g' : Nat} {t' : TypeId} {cs : Array Value} {fuel : Nat} {enc : TypeId × Value → Unit} {base : Nat} {sp : Nat → Bool} {held : Bool} {p : List MemPlace}
    (hg' : Tryd.prog.globalNamed "veil/veilref01.Zero" = some g') (ht' : (Tryd.prog.globals[g']?).map (·.type) = some t') (hv : W.var? Tryd.prog "veil/veilref01.Zero" = some cs)
    (hd : DataW.trod enc Tryd.prog W base sp held fuel t' cs.toList = some (YtkilkhhnbhdbbaaDoor.Rows.laid_veil_veilref01_Zero, p)) : GlobOne Tryd.prog W ⟨2, 38, (.ints .i64 10 [0, 0, 0, 0, 0, 0, 0, 0, 0, 0])⟩ :=
  glob_of (by kernel_rfl : Tryd.prog.globalNamed "veil/veilref01.Zero" = some 2) hg' (by kernel_rfl : (Tryd.prog.globals[2]?).map (·.type) = some 38) ht' hv hd flat38 (by kernel_rfl) (by simp [YtkilkhhnbhdbbaaDoor.Rows.laid_veil_veilref01_Zero, flatD, flatL]) has_Zero ok_Zero

theorem has_One : Has Tryd.prog (.ints .i64 10 [1, 0, 0, 0, 0, 0, 0, 0, 0, 0]) 38 := has_of_chk _ _ _ (by kernel_rfl)
theorem ok_One : OK Tryd.prog (fun _ => none) (.ints .i64 10 [1, 0, 0, 0, 0, 0, 0, 0, 0, 0]) := ⟨rfl, by decide⟩
theorem glob_One {W : World} {g' : Nat} {t' : TypeId} {cs : Array Value} {fuel : Nat} {enc : TypeId × Value → Unit} {base : Nat} {sp : Nat → Bool} {held : Bool} {p : List MemPlace}
    (hg' : Tryd.prog.globalNamed "veil/veilref01.One" = some g') (ht' : (Tryd.prog.globals[g']?).map (·.type) = some t') (hv : W.var? Tryd.prog "veil/veilref01.One" = some cs)
    (hd : DataW.trod enc Tryd.prog W base sp held fuel t' cs.toList = some (YtkilkhhnbhdbbaaDoor.Rows.laid_veil_veilref01_One, p)) : GlobOne Tryd.prog W ⟨0, 38, (.ints .i64 10 [1, 0, 0, 0, 0, 0, 0, 0, 0, 0])⟩ :=
  glob_of (by kernel_rfl : Tryd.prog.globalNamed "veil/veilref01.One" = some 0) hg' (by kernel_rfl : (Tryd.prog.globals[0]?).map (·.type) = some 38) ht' hv hd flat38 (by kernel_rfl) (by simp [YtkilkhhnbhdbbaaDoor.Rows.laid_veil_veilref01_One, flatD, flatL]) has_One ok_One

theorem has_prime : Has Tryd.prog (.ints .i64 10 [67108845, 67108863, 67108863, 67108863, 67108863, 67108863, 67108863, 67108863, 67108863, 2097151]) 38 := has_of_chk _ _ _ (by kernel_rfl)
theorem ok_prime : OK Tryd.prog (fun _ => none) (.ints .i64 10 [67108845, 67108863, 67108863, 67108863, 67108863, 67108863, 67108863, 67108863, 67108863, 2097151]) := ⟨rfl, by decide⟩
theorem glob_prime {W : World} {g' : Nat} {t' : TypeId} {cs : Array Value} {fuel : Nat} {enc : TypeId × Value → Unit} {base : Nat} {sp : Nat → Bool} {held : Bool} {p : List MemPlace}
    (hg' : Tryd.prog.globalNamed "veil/veilref01.prime" = some g') (ht' : (Tryd.prog.globals[g']?).map (·.type) = some t') (hv : W.var? Tryd.prog "veil/veilref01.prime" = some cs)
    (hd : DataW.trod enc Tryd.prog W base sp held fuel t' cs.toList = some (YtkilkhhnbhdbbaaDoor.Rows.laid_veil_veilref01_prime, p)) : GlobOne Tryd.prog W ⟨4, 38, (.ints .i64 10 [67108845, 67108863, 67108863, 67108863, 67108863, 67108863, 67108863, 67108863, 67108863, 2097151])⟩ :=
  glob_of (by kernel_rfl : Tryd.prog.globalNamed "veil/veilref01.prime" = some 4) hg' (by kernel_rfl : (Tryd.prog.globals[4]?).map (·.type) = some 38) ht' hv hd flat38 (by kernel_rfl) (by simp [YtkilkhhnbhdbbaaDoor.Rows.laid_veil_veilref01_prime, flatD, flatL]) has_prime ok_prime

theorem has_base : Has Tryd.prog (.agg [(.agg [(.ints .u64 5 [1738742601995546, 1146398526822698, 2070867633025821, 562264141797630, 587772402128613]), (.ints .u64 5 [1801439850948184, 1351079888211148, 450359962737049, 900719925474099, 1801439850948198]), (.ints .u64 5 [1, 0, 0, 0, 0]), (.ints .u64 5 [1841354044333475, 16398895984059, 755974180946558, 900171276175154, 1821297809914039])])]) 32 := has_of_chk _ _ _ (by kernel_rfl)
theorem ok_base : OK Tryd.prog (fun _ => none) (.agg [(.agg [(.ints .u64 5 [1738742601995546, 1146398526822698, 2070867633025821, 562264141797630, 587772402128613]), (.ints .u64 5 [1801439850948184, 1351079888211148, 450359962737049, 900719925474099, 1801439850948198]), (.ints .u64 5 [1, 0, 0, 0, 0]), (.ints .u64 5 [1841354044333475, 16398895984059, 755974180946558, 900171276175154, 1821297809914039])])]) := ⟨⟨⟨rfl, by decide⟩, ⟨rfl, by decide⟩, ⟨rfl, by decide⟩, ⟨rfl, by decide⟩, trivial⟩, trivial⟩
theorem glob_base {W : World} {g' : Nat} {t' : TypeId} {cs : Array Value} {fuel : Nat} {enc : TypeId × Value → Unit} {base : Nat} {sp : Nat → Bool} {held : Bool} {p : List MemPlace}
    (hg' : Tryd.prog.globalNamed "veil/curve.base" = some g') (ht' : (Tryd.prog.globals[g']?).map (·.type) = some t') (hv : W.var? Tryd.prog "veil/curve.base" = some cs)
    (hd : DataW.trod enc Tryd.prog W base sp held fuel t' cs.toList = some (YtkilkhhnbhdbbaaDoor.Rows.laid_veil_curve_base, p)) : GlobOne Tryd.prog W ⟨5, 32, (.agg [(.agg [(.ints .u64 5 [1738742601995546, 1146398526822698, 2070867633025821, 562264141797630, 587772402128613]), (.ints .u64 5 [1801439850948184, 1351079888211148, 450359962737049, 900719925474099, 1801439850948198]), (.ints .u64 5 [1, 0, 0, 0, 0]), (.ints .u64 5 [1841354044333475, 16398895984059, 755974180946558, 900171276175154, 1821297809914039])])])⟩ :=
  glob_of (by kernel_rfl : Tryd.prog.globalNamed "veil/curve.base" = some 5) hg' (by kernel_rfl : (Tryd.prog.globals[5]?).map (·.type) = some 32) ht' hv hd flat32 (by kernel_rfl) (by simp [YtkilkhhnbhdbbaaDoor.Rows.laid_veil_curve_base, flatD, flatL]) has_base ok_base

end Go.Vx
