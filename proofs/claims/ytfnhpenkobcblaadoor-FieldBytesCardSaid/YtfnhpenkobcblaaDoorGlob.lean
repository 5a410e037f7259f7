import Derived.Test.YtfnhpenkobcblaaDoorFw
import Derived.Test.YtfnhpenkobcblaaDoorRows
import Derived.Test.YtfnhpenkobcblaaDoorVxT
namespace Go.Vx
open Go Go.Proofs Go.RowKit
set_option linter.unusedVariables false

theorem gTable : Tryd.prog.globalNamed "veil/field.table" = some 2 := by kernel_rfl
theorem tTable : (Tryd.prog.globals[2]?).map (·.type) = some 72 := by kernel_rfl
theorem flat22 : FlatAt Tryd.prog 22 := flat_int Tryd.underlying22 (by kernel_rfl)
theorem flat24 : FlatAt Tryd.prog 24 := flat_arr Tryd.underlying24 (by kernel_rfl) flat22
theorem flat72 : FlatAt Tryd.prog 72 := flat_arr Tryd.underlying72 (by kernel_rfl) flat24
abbrev tabAV : AV := .rows 7 fun i => .ints .u64 5 (field_tab i)
theorem has_tab : Has Tryd.prog tabAV 72 := by
  exact ⟨24, Tryd.underlying72, fun i => ⟨22, Tryd.underlying24, Tryd.underlying22, by kernel_rfl, by kernel_rfl⟩, by kernel_rfl⟩
theorem tab_ok (i : Nat) : (field_tab i).length = 5 ∧ ∀ x ∈ field_tab i, IntKind.u64.min ≤ x ∧ x ≤ IntKind.u64.max := by
  match i with
  | 0 => exact ⟨rfl, by decide⟩
  | 1 => exact ⟨rfl, by decide⟩
  | 2 => exact ⟨rfl, by decide⟩
  | 3 => exact ⟨rfl, by decide⟩
  | 4 => exact ⟨rfl, by decide⟩
  | 5 => exact ⟨rfl, by decide⟩
  | 6 => exact ⟨rfl, by decide⟩
  | n + 7 => exact ⟨rfl, by
      show ∀ x ∈ ([0, 0, 0, 0, 0] : List Int), _
      decide⟩
theorem ok_tab : OK Tryd.prog (fun _ => none) tabAV := by
  simp only [OK]
  exact fun i => tab_ok i


theorem flat2 : FlatAt Tryd.prog 2 := flat_int Tryd.underlying2 (by kernel_rfl)
theorem flat26 : FlatAt Tryd.prog 26 := flat_arr Tryd.underlying26 (by kernel_rfl) flat2
theorem has_ten {l : List Int} : Has Tryd.prog (.ints .i64 10 l) 26 := ⟨2, Tryd.underlying26, Tryd.underlying2, by kernel_rfl, by kernel_rfl⟩
theorem ok_ten {l : List Int} (h : l.length = 10 ∧ ∀ x ∈ l, IntKind.i64.min ≤ x ∧ x ≤ IntKind.i64.max) : OK Tryd.prog (fun _ => none) (.ints .i64 10 l) := h

theorem glob_table {W : World} {g' : Nat} {t' : TypeId} {cs : Array Value} {fuel : Nat} {enc : TypeId × Value → Unit} {base : Nat} {sp : Nat → Bool} {held : Bool} {p : List MemPlace}
    (hg' : Tryd.prog.globalNamed "veil/field.table" = some g') (ht' : (Tryd.prog.globals[g']?).map (·.type) = some t') (hv : W.var? Tryd.prog "veil/field.table" = some cs)
    (hd : DataW.trod enc Tryd.prog W base sp held fuel t' cs.toList = some (YtfnhpenkobcblaaDoor.Rows.laid_veil_field_table, p)) : GlobOne Tryd.prog W ⟨2, 72, tabAV⟩ :=
  glob_of (by kernel_rfl : Tryd.prog.globalNamed "veil/field.table" = some 2) hg' (by kernel_rfl : (Tryd.prog.globals[2]?).map (·.type) = some 72) ht' hv hd flat72 (by kernel_rfl) (by simp [YtfnhpenkobcblaaDoor.Rows.laid_veil_field_table, flatD, flatL]) has_tab ok_tab

theorem glob_One {W : World} {g' : Nat} {t' : TypeId} {cs : Array Value} {fuel : Nat} {enc : TypeId × Value → Unit} {base : Nat} {sp : Nat → Bool} {held : Bool} {p : List MemPlace}
    (hg' : Tryd.prog.globalNamed "veil/veilref01.One" = some g') (ht' : (Tryd.prog.globals[g']?).map (·.type) = some t') (hv : W.var? Tryd.prog "veil/veilref01.One" = some cs)
    (hd : DataW.trod enc Tryd.prog W base sp held fuel t' cs.toList = some (YtfnhpenkobcblaaDoor.Rows.laid_veil_veilref01_One, p)) : GlobOne Tryd.prog W ⟨0, 26, .ints .i64 10 [1, 0, 0, 0, 0, 0, 0, 0, 0, 0]⟩ :=
  glob_of (by kernel_rfl : Tryd.prog.globalNamed "veil/veilref01.One" = some 0) hg' (by kernel_rfl : (Tryd.prog.globals[0]?).map (·.type) = some 26) ht' hv hd flat26 (by kernel_rfl) (by simp [YtfnhpenkobcblaaDoor.Rows.laid_veil_veilref01_One, flatD, flatL]) has_ten (ok_ten ⟨rfl, by decide⟩)

theorem glob_Zero {W : World} {g' : Nat} {t' : TypeId} {cs : Array Value} {fuel : Nat} {enc : TypeId × Value → Unit} {base : Nat} {sp : Nat → Bool} {held : Bool} {p : List MemPlace}
    (hg' : Tryd.prog.globalNamed "veil/veilref01.Zero" = some g') (ht' : (Tryd.prog.globals[g']?).map (·.type) = some t') (hv : W.var? Tryd.prog "veil/veilref01.Zero" = some cs)
    (hd : DataW.trod enc Tryd.prog W base sp held fuel t' cs.toList = some (YtfnhpenkobcblaaDoor.Rows.laid_veil_veilref01_Zero, p)) : GlobOne Tryd.prog W ⟨1, 26, .ints .i64 10 [0, 0, 0, 0, 0, 0, 0, 0, 0, 0]⟩ :=
  glob_of (by kernel_rfl : Tryd.prog.globalNamed "veil/veilref01.Zero" = some 1) hg' (by kernel_rfl : (Tryd.prog.globals[1]?).map (·.type) = some 26) ht' hv hd flat26 (by kernel_rfl) (by simp [YtfnhpenkobcblaaDoor.Rows.laid_veil_veilref01_Zero, flatD, flatL]) has_ten (ok_ten ⟨rfl, by decide⟩)

theorem glob_prime {W : World} {g' : Nat} {t' : TypeId} {cs : Array Value} {fuel : Nat} {enc : TypeId × Value → Unit} {base : Nat} {sp : Nat → Bool} {held : Bool} {p : List MemPlace}
    (hg' : Tryd.prog.globalNamed "veil/veilref01.prime" = some g') (ht' : (Tryd.prog.globals[g']?).map (·.type) = some t') (hv : W.var? Tryd.prog "veil/veilref01.prime" = some cs)
    (hd : DataW.trod enc Tryd.prog W base sp held fuel t' cs.toList = some (YtfnhpenkobcblaaDoor.Rows.laid_veil_veilref01_prime, p)) : GlobOne Tryd.prog W ⟨3, 26, .ints .i64 10 [67108845, 67108863, 67108863, 67108863, 67108863, 67108863, 67108863, 67108863, 67108863, 2097151]⟩ :=
  glob_of (by kernel_rfl : Tryd.prog.globalNamed "veil/veilref01.prime" = some 3) hg' (by kernel_rfl : (Tryd.prog.globals[3]?).map (·.type) = some 26) ht' hv hd flat26 (by kernel_rfl) (by simp [YtfnhpenkobcblaaDoor.Rows.laid_veil_veilref01_prime, flatD, flatL]) has_ten (ok_ten ⟨rfl, by decide⟩)
end Go.Vx
