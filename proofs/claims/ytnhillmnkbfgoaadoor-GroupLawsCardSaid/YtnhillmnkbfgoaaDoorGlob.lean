import Derived.Test.YtnhillmnkbfgoaaDoorFw
import Derived.Test.YtnhillmnkbfgoaaDoorRows
import Derived.Test.YtnhillmnkbfgoaaDoorVxT
namespace Go.Vx
open Go Go.Proofs Go.RowKit
set_option linter.unusedVariables false

theorem flat24 : FlatAt Tryd.prog 24 := flat_int Tryd.underlying24 (by kernel_rfl)
theorem flat28 : FlatAt Tryd.prog 28 := flat_arr Tryd.underlying28 (by kernel_rfl) flat24
theorem flat106 : FlatAt Tryd.prog 106 := flat_arr Tryd.underlying106 (by kernel_rfl) flat28
theorem flat36 : FlatAt Tryd.prog 36 := flat_arr Tryd.underlying36 (by kernel_rfl) flat24
theorem flat70 : FlatAt Tryd.prog 70 := flat_arr Tryd.underlying70 (by kernel_rfl) flat36
theorem flat30 : FlatAt Tryd.prog 30 := flat_struct Tryd.underlying30 ⟨(by show _ = _; kernel_rfl), flat28, (by show _ = _; kernel_rfl), flat28, (by show _ = _; kernel_rfl), flat28, (by show _ = _; kernel_rfl), flat28, (by show _ = _; kernel_rfl)⟩
theorem flat32 : FlatAt Tryd.prog 32 := flat_struct Tryd.underlying32 ⟨(by show _ = _; kernel_rfl), flat30, (by show _ = _; kernel_rfl)⟩

theorem has_veil_field_table : Has Tryd.prog (.rows 7 fun i => .ints .u64 5 (field_tab i)) 106 := ⟨28, Tryd.underlying106, fun i => ⟨24, Tryd.underlying28, Tryd.underlying24, by kernel_rfl, by kernel_rfl⟩, by kernel_rfl⟩
theorem row_veil_field_table (i : Nat) : (field_tab i).length = 5 ∧ ∀ x ∈ field_tab i, IntKind.u64.min ≤ x ∧ x ≤ IntKind.u64.max := by
  match i with
  | 0 => exact ⟨rfl, by decide⟩
  | 1 => exact ⟨rfl, by decide⟩
  | 2 => exact ⟨rfl, by decide⟩
  | 3 => exact ⟨rfl, by decide⟩
  | 4 => exact ⟨rfl, by decide⟩
  | 5 => exact ⟨rfl, by decide⟩
  | 6 => exact ⟨rfl, by decide⟩
  | n + 7 => exact ⟨rfl, by
      show ∀ x ∈ ([0, 0, 0, 0, 0] : List Int), _
      decide⟩
theorem ok_veil_field_table : OK Tryd.prog (fun _ => none) (.rows 7 fun i => .ints .u64 5 (field_tab i)) := by
  simp only [OK]
  exact fun i => row_veil_field_table i
theorem glob_veil_field_table {W : World} {g' : Nat} {t' : TypeId} {cs : Array Value} {fuel : Nat} {enc : TypeId × Value → Unit} {base : Nat} {sp : Nat → Bool} {held : Bool} {p : List MemPlace}
    (hg' : Tryd.prog.globalNamed "veil/field.table" = some g') (ht' : (Tryd.prog.globals[g']?).map (·.type) = some t') (hv : W.var? Tryd.prog "veil/field.table" = some cs)
    (hd : DataW.trod enc Tryd.prog W base sp held fuel t' cs.toList = some (YtnhillmnkbfgoaaDoor.Rows.laid_veil_field_table, p)) : GlobOne Tryd.prog W ⟨4, 106, (.rows 7 fun i => .ints .u64 5 (field_tab i))⟩ :=
  glob_of (by kernel_rfl : Tryd.prog.globalNamed "veil/field.table" = some 4) hg' (by kernel_rfl : (Tryd.prog.globals[4]?).map (·.type) = some 106) ht' hv hd flat106 (by kernel_rfl) (by simp [YtnhillmnkbfgoaaDoor.Rows.laid_veil_field_table, flatD, flatL]) has_veil_field_table ok_veil_field_table

theorem has_veil_scalar_table : Has Tryd.prog (.agg [(.ints .u64 4 [6346243789798364141, 1503914060200516822, 0, 1152921504606846976]), (.ints .u64 4 [15486807595281847581, 14334777244411350896, 18446744073709551614, 1152921504606846975]), (.ints .u64 4 [11819153939886771969, 14991950615390032711, 14910419812499177061, 259310039853996605]), (.ints .u64 4 [6346243789798364139, 1503914060200516822, 0, 1152921504606846976])]) 70 := has_of_chk _ _ _ (by kernel_rfl)
theorem ok_veil_scalar_table : OK Tryd.prog (fun _ => none) (.agg [(.ints .u64 4 [6346243789798364141, 1503914060200516822, 0, 1152921504606846976]), (.ints .u64 4 [15486807595281847581, 14334777244411350896, 18446744073709551614, 1152921504606846975]), (.ints .u64 4 [11819153939886771969, 14991950615390032711, 14910419812499177061, 259310039853996605]), (.ints .u64 4 [6346243789798364139, 1503914060200516822, 0, 1152921504606846976])]) := ⟨⟨rfl, by decide⟩, ⟨rfl, by decide⟩, ⟨rfl, by decide⟩, ⟨rfl, by decide⟩, trivial⟩
theorem glob_veil_scalar_table {W : World} {g' : Nat} {t' : TypeId} {cs : Array Value} {fuel : Nat} {enc : TypeId × Value → Unit} {base : Nat} {sp : Nat → Bool} {held : Bool} {p : List MemPlace}
    (hg' : Tryd.prog.globalNamed "veil/scalar.table" = some g') (ht' : (Tryd.prog.globals[g']?).map (·.type) = some t') (hv : W.var? Tryd.prog "veil/scalar.table" = some cs)
    (hd : DataW.trod enc Tryd.prog W base sp held fuel t' cs.toList = some (YtnhillmnkbfgoaaDoor.Rows.laid_veil_scalar_table, p)) : GlobOne Tryd.prog W ⟨0, 70, (.agg [(.ints .u64 4 [6346243789798364141, 1503914060200516822, 0, 1152921504606846976]), (.ints .u64 4 [15486807595281847581, 14334777244411350896, 18446744073709551614, 1152921504606846975]), (.ints .u64 4 [11819153939886771969, 14991950615390032711, 14910419812499177061, 259310039853996605]), (.ints .u64 4 [6346243789798364139, 1503914060200516822, 0, 1152921504606846976])])⟩ :=
  glob_of (by kernel_rfl : Tryd.prog.globalNamed "veil/scalar.table" = some 0) hg' (by kernel_rfl : (Tryd.prog.globals[0]?).map (·.type) = some 70) ht' hv hd flat70 (by kernel_rfl) (by simp [YtnhillmnkbfgoaaDoor.Rows.laid_veil_scalar_table, flatD, flatL]) has_veil_scalar_table ok_veil_scalar_table

theorem has_one : Has Tryd.prog (.ints .u64 5 [1, 0, 0, 0, 0]) 28 := has_of_chk _ _ _ (by kernel_rfl)
theorem ok_one : OK Tryd.prog (fun _ => none) (.ints .u64 5 [1, 0, 0, 0, 0]) := ⟨rfl, by decide⟩
theorem glob_one {W : World} {g' : Nat} {t' : TypeId} {cs : Array Value} {fuel : Nat} {enc : TypeId × Value → Unit} {base : Nat} {sp : Nat → Bool} {held : Bool} {p : List MemPlace}
    (hg' : Tryd.prog.globalNamed "veil/curve.one" = some g') (ht' : (Tryd.prog.globals[g']?).map (·.type) = some t') (hv : W.var? Tryd.prog "veil/curve.one" = some cs)
    (hd : DataW.trod enc Tryd.prog W base sp held fuel t' cs.toList = some (YtnhillmnkbfgoaaDoor.Rows.laid_veil_curve_one, p)) : GlobOne Tryd.prog W ⟨5, 28, (.ints .u64 5 [1, 0, 0, 0, 0])⟩ :=
  glob_of (by kernel_rfl : Tryd.prog.globalNamed "veil/curve.one" = some 5) hg' (by kernel_rfl : (Tryd.prog.globals[5]?).map (·.type) = some 28) ht' hv hd flat28 (by kernel_rfl) (by simp [YtnhillmnkbfgoaaDoor.Rows.laid_veil_curve_one, flatD, flatL]) has_one ok_one

theorem has_twice : Has Tryd.prog (.ints .u64 5 [1859910466990425, 932731440258426, 1072319116312658, 1815898335770999, 633789495995903]) 28 := has_of_chk _ _ _ (by kernel_rfl)
theorem ok_twice : OK Tryd.prog (fun _ => none) (.ints .u64 5 [1859910466990425, 932731440258426, 1072319116312658, 1815898335770999, 633789495995903]) := ⟨rfl, by decide⟩
theorem glob_twice {W : World} {g' : Nat} {t' : TypeId} {cs : Array Value} {fuel : Nat} {enc : TypeId × Value → Unit} {base : Nat} {sp : Nat → Bool} {held : Bool} {p : List MemPlace}
    (hg' : Tryd.prog.globalNamed "veil/curve.twice" = some g') (ht' : (Tryd.prog.globals[g']?).map (·.type) = some t') (hv : W.var? Tryd.prog "veil/curve.twice" = some cs)
    (hd : DataW.trod enc Tryd.prog W base sp held fuel t' cs.toList = some (YtnhillmnkbfgoaaDoor.Rows.laid_veil_curve_twice, p)) : GlobOne Tryd.prog W ⟨1, 28, (.ints .u64 5 [1859910466990425, 932731440258426, 1072319116312658, 1815898335770999, 633789495995903])⟩ :=
  glob_of (by kernel_rfl : Tryd.prog.globalNamed "veil/curve.twice" = some 1) hg' (by kernel_rfl : (Tryd.prog.globals[1]?).map (·.type) = some 28) ht' hv hd flat28 (by kernel_rfl) (by simp [YtnhillmnkbfgoaaDoor.Rows.laid_veil_curve_twice, flatD, flatL]) has_twice ok_twice

theorem has_base : Has Tryd.prog (.agg [(.agg [(.ints .u64 5 [1738742601995546, 1146398526822698, 2070867633025821, 562264141797630, 587772402128613]), (.ints .u64 5 [1801439850948184, 1351079888211148, 450359962737049, 900719925474099, 1801439850948198]), (.ints .u64 5 [1, 0, 0, 0, 0]), (.ints .u64 5 [1841354044333475, 16398895984059, 755974180946558, 900171276175154, 1821297809914039])])]) 32 := has_of_chk _ _ _ (by kernel_rfl)
theorem ok_base : OK Tryd.prog (fun _ => none) (.agg [(.agg [(.ints .u64 5 [1738742601995546, 1146398526822698, 2070867633025821, 562264141797630, 587772402128613]), (.ints .u64 5 [1801439850948184, 1351079888211148, 450359962737049, 900719925474099, 1801439850948198]), (.ints .u64 5 [1, 0, 0, 0, 0]), (.ints .u64 5 [1841354044333475, 16398895984059, 755974180946558, 900171276175154, 1821297809914039])])]) := ⟨⟨⟨rfl, by decide⟩, ⟨rfl, by decide⟩, ⟨rfl, by decide⟩, ⟨rfl, by decide⟩, trivial⟩, trivial⟩
theorem glob_base {W : World} {g' : Nat} {t' : TypeId} {cs : Array Value} {fuel : Nat} {enc : TypeId × Value → Unit} {base : Nat} {sp : Nat → Bool} {held : Bool} {p : List MemPlace}
    (hg' : Tryd.prog.globalNamed "veil/curve.base" = some g') (ht' : (Tryd.prog.globals[g']?).map (·.type) = some t') (hv : W.var? Tryd.prog "veil/curve.base" = some cs)
    (hd : DataW.trod enc Tryd.prog W base sp held fuel t' cs.toList = some (YtnhillmnkbfgoaaDoor.Rows.laid_veil_curve_base, p)) : GlobOne Tryd.prog W ⟨6, 32, (.agg [(.agg [(.ints .u64 5 [1738742601995546, 1146398526822698, 2070867633025821, 562264141797630, 587772402128613]), (.ints .u64 5 [1801439850948184, 1351079888211148, 450359962737049, 900719925474099, 1801439850948198]), (.ints .u64 5 [1, 0, 0, 0, 0]), (.ints .u64 5 [1841354044333475, 16398895984059, 755974180946558, 900171276175154, 1821297809914039])])])⟩ :=
  glob_of (by kernel_rfl : Tryd.prog.globalNamed "veil/curve.base" = some 6) hg' (by kernel_rfl : (Tryd.prog.globals[6]?).map (·.type) = some 32) ht' hv hd flat32 (by kernel_rfl) (by simp [YtnhillmnkbfgoaaDoor.Rows.laid_veil_curve_base, flatD, flatL]) has_base ok_base

end Go.Vx
