import Derived.Test.YtepcolekkomkpaaDoorFw
import Derived.Test.YtepcolekkomkpaaDoorRows
import Derived.Test.YtepcolekkomkpaaDoorVxT
namespace Go.Vx
open Go Go.Proofs Go.RowKit
set_option linter.unusedVariables false

theorem flat28 : FlatAt Tryd.prog 28 := flat_int Tryd.underlying28 (by kernel_rfl)
theorem flat30 : FlatAt Tryd.prog 30 := flat_arr Tryd.underlying30 (by kernel_rfl) flat28
theorem flat64 : FlatAt Tryd.prog 64 := flat_arr Tryd.underlying64 (by kernel_rfl) flat30
theorem flat2 : FlatAt Tryd.prog 2 := flat_int Tryd.underlying2 (by kernel_rfl)
theorem flat26 : FlatAt Tryd.prog 26 := flat_arr Tryd.underlying26 (by kernel_rfl) flat2

theorem has_table : Has Tryd.prog (.rows 7 fun i => .ints .u64 5 (field_tab i)) 64 := ⟨30, Tryd.underlying64, fun i => ⟨28, Tryd.underlying30, Tryd.underlying28, by kernel_rfl, by kernel_rfl⟩, by kernel_rfl⟩
theorem row_table (i : Nat) : (field_tab i).length = 5 ∧ ∀ x ∈ field_tab i, IntKind.u64.min ≤ x ∧ x ≤ IntKind.u64.max := by
  match i with
  | 0 => exact ⟨rfl, by decide⟩
  | 1 => exact ⟨rfl, by decide⟩
  | 2 => exact ⟨rfl, by decide⟩
  | 3 => exact ⟨rfl, by decide⟩
  | 4 => exact ⟨rfl, by decide⟩
  | 5 => exact ⟨rfl, by decide⟩
  | 6 => exact ⟨rfl, by decide⟩
  | n + 7 => exact ⟨rfl, by
      show ∀ x ∈ ([0, 0, 0, 0, 0] : List Int), _
      decide⟩
theorem ok_table : OK Tryd.prog (fun _ => none) (.rows 7 fun i => .ints .u64 5 (field_tab i)) := by
  simp only [OK]
  exact fun i => row_table i
theorem glob_table {W : World} {g' : Nat} {t' : TypeId} {cs : Array Value} {fuel : Nat} {enc : TypeId × Value → Unit} {base : Nat} {sp : Nat → Bool} {held : Bool} {p : List MemPlace}
    (hg' : Tryd.prog.globalNamed "veil/field.table" = some g') (ht' : (Tryd.prog.globals[g']?).map (·.type) = some t') (hv : W.var? Tryd.prog "veil/field.table" = some cs)
    (hd : DataW.trod enc Tryd.prog W base sp held fuel t' cs.toList = some (YtepcolekkomkpaaDoor.Rows.laid_veil_field_table, p)) : GlobOne Tryd.prog W ⟨2, 64, (.rows 7 fun i => .ints .u64 5 (field_tab i))⟩ :=
  glob_of (by kernel_rfl : Tryd.prog.globalNamed "veil/field.table" = some 2) hg' (by kernel_rfl : (Tryd.prog.globals[2]?).map (·.type) = some 64) ht' hv hd flat64 (by kernel_rfl) (by simp [YtepcolekkomkpaaDoor.Rows.laid_veil_field_table, flatD, flatL]) has_table ok_table

theorem has_Zero : Has Tryd.prog (.ints .i64 10 [0, 0, 0, 0, 0, 0, 0, 0, 0, 0]) 26 := has_of_chk _ _ _ (by kernel_rfl)
theorem ok_Zero : OK Tryd.prog (fun _ => none) (.ints .i64 10 [0, 0, 0, 0, 0, 0, 0, 0, 0, 0]) := ⟨rfl, by decide⟩
theorem glob_Zero {W : World} {g' : Nat} {t' : TypeId} {cs : Array Value} {fuel : Nat} {enc : TypeId × Value → Unit} {base : Nat} {sp : Nat → Bool} {held : Bool} {p : List MemPlace}
    (hg' : Tryd.prog.globalNamed "veil/veilref01.Zero" = some g') (ht' : (Tryd.prog.globals[g']?).map (·.type) = some t') (hv : W.var? Tryd.prog "veil/veilref01.Zero" = some cs)
    (hd : DataW.trod enc Tryd.prog W base sp held fuel t' cs.toList = some (YtepcolekkomkpaaDoor.Rows.laid_veil_veilref01_Zero, p)) : GlobOne Tryd.prog W ⟨0, 26, (.ints .i64 10 [0, 0, 0, 0, 0, 0, 0, 0, 0, 0])⟩ :=
  glob_of (by kernel_rfl : Tryd.prog.globalNamed "veil/veilref01.Zero" = some 0) hg' (by kernel_rfl : (Tryd.prog.globals[0]?).map (·.type) = some 26) ht' hv hd flat26 (by kernel_rfl) (by simp [YtepcolekkomkpaaDoor.Rows.laid_veil_veilref01_Zero, flatD, flatL]) has_Zero ok_Zero

theorem has_prime : Has Tryd.prog (.ints .i64 10 [67108845, 67108863, 67108863, 67108863, 67108863, 67108863, 67108863, 67108863, 67108863, 2097151]) 26 := has_of_chk _ _ _ (by kernel_rfl)
theorem ok_prime : OK Tryd.prog (fun _ => none) (.ints .i64 10 [67108845, 67108863, 67108863, 67108863, 67108863, 67108863, 67108863, 67108863, 67108863, 2097151]) := ⟨rfl, by decide⟩
theorem glob_prime {W : World} {g' : Nat} {t' : TypeId} {cs : Array Value} {fuel : Nat} {enc : TypeId × Value → Unit} {base : Nat} {sp : Nat → Bool} {held : Bool} {p : List MemPlace}
    (hg' : Tryd.prog.globalNamed "veil/veilref01.prime" = some g') (ht' : (Tryd.prog.globals[g']?).map (·.type) = some t') (hv : W.var? Tryd.prog "veil/veilref01.prime" = some cs)
    (hd : DataW.trod enc Tryd.prog W base sp held fuel t' cs.toList = some (YtepcolekkomkpaaDoor.Rows.laid_veil_veilref01_prime, p)) : GlobOne Tryd.prog W ⟨1, 26, (.ints .i64 10 [67108845, 67108863, 67108863, 67108863, 67108863, 67108863, 67108863, 67108863, 67108863, 2097151])⟩ :=
  glob_of (by kernel_rfl : Tryd.prog.globalNamed "veil/veilref01.prime" = some 1) hg' (by kernel_rfl : (Tryd.prog.globals[1]?).map (·.type) = some 26) ht' hv hd flat26 (by kernel_rfl) (by simp [YtepcolekkomkpaaDoor.Rows.laid_veil_veilref01_prime, flatD, flatL]) has_prime ok_prime

end Go.Vx
