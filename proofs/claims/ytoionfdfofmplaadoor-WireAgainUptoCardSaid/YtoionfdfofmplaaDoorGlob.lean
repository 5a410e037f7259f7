import Derived.Test.YtoionfdfofmplaaDoorFw
import Derived.Test.YtoionfdfofmplaaDoorRows
import Derived.Test.YtoionfdfofmplaaDoorVxT
namespace Go.Vx
open Go Go.Proofs Go.RowKit
set_option linter.unusedVariables false
theorem flat22 : FlatAt Tryd.prog 22 := Zt7 Tryd.underlying22 (by kernel_rfl)
theorem flat24 : FlatAt Tryd.prog 24 := Zri Tryd.underlying24 (by kernel_rfl) flat22
theorem flat25 : FlatAt Tryd.prog 25 := Zri Tryd.underlying25 (by kernel_rfl) flat24
theorem Ztd : Has Tryd.prog (.agg [(.ints .u64 4 [6346243789798364141, 1503914060200516822, 0, 1152921504606846976]), (.ints .u64 4 [15486807595281847581, 14334777244411350896, 18446744073709551614, 1152921504606846975]), (.ints .u64 4 [11819153939886771969, 14991950615390032711, 14910419812499177061, 259310039853996605]), (.ints .u64 4 [6346243789798364139, 1503914060200516822, 0, 1152921504606846976])]) 25 := ZcN _ _ _ (by kernel_rfl)
theorem Zt8 : OK Tryd.prog (fun _ => none) (.agg [(.ints .u64 4 [6346243789798364141, 1503914060200516822, 0, 1152921504606846976]), (.ints .u64 4 [15486807595281847581, 14334777244411350896, 18446744073709551614, 1152921504606846975]), (.ints .u64 4 [11819153939886771969, 14991950615390032711, 14910419812499177061, 259310039853996605]), (.ints .u64 4 [6346243789798364139, 1503914060200516822, 0, 1152921504606846976])]) := ⟨⟨rfl, by decide⟩, ⟨rfl, by decide⟩, ⟨rfl, by decide⟩, ⟨rfl, by decide⟩, trivial⟩
theorem Zrm {W:World} {g':Nat} {t':TypeId} {cs:Array Value} {fuel:Nat} {enc:TypeId × Value → Unit} {base:Nat} {sp:Nat → Bool} {held:Bool} {p:List MemPlace}
  (hg':Tryd.prog.globalNamed "veil/scalar.table" = some g') (ht':(Tryd.prog.globals[g']?).map (·.type) = some t') (hv:W.var? Tryd.prog "veil/scalar.table" = some cs)
  (hd:DataW.trod enc Tryd.prog W base sp held fuel t' cs.toList = some (YtoionfdfofmplaaDoor.Rows.laid_veil_scalar_table, p)) : GlobOne Tryd.prog W ⟨0, 25, (.agg [(.ints .u64 4 [6346243789798364141, 1503914060200516822, 0, 1152921504606846976]), (.ints .u64 4 [15486807595281847581, 14334777244411350896, 18446744073709551614, 1152921504606846975]), (.ints .u64 4 [11819153939886771969, 14991950615390032711, 14910419812499177061, 259310039853996605]), (.ints .u64 4 [6346243789798364139, 1503914060200516822, 0, 1152921504606846976])])⟩ :=
 glob_of (by kernel_rfl:Tryd.prog.globalNamed "veil/scalar.table" = some 0) hg' (by kernel_rfl:(Tryd.prog.globals[0]?).map (·.type) = some 25) ht' hv hd flat25 (by kernel_rfl) (by simp [YtoionfdfofmplaaDoor.Rows.laid_veil_scalar_table, flatD, flatL]) Ztd Zt8
end Go.Vx
