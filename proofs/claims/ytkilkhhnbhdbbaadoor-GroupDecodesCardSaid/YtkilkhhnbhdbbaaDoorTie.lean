/-
  DERIVED. GIVEN WITH THE SEED: THE PROGRAM's TIES (one call each: nine closed facts by the kernel) AND EACH ROW's TIE, after the 31st guide's Derived/Test/Toyas{Tie, Card}.lean. No idea stands in it: it is a product of the set-up. Laid BY PROGRAM, IN A SANDBOX (cutbox-door.mjs). By AI agents, Wed Nov 11 2026. No macro, syntax, notation, axiom, sorry.
-/
import Derived.Test.YtkilkhhnbhdbbaaDoorRows
import Derived.LaidByTextLater
import Derived.SevenTiedAt
import Derived.LaidSub
import Derived.LaidOnce
namespace Go.Proofs.YtkilkhhnbhdbbaaDoor
open Go
set_option maxRecDepth 100000
theorem seatTie1 : Tryd.prog.laidByTextLater [("veil/field.table", Rows.laid_veil_field_table), ("veil/curve.one", Rows.laid_veil_curve_one), ("veil/curve.twice", Rows.laid_veil_curve_twice), ("veil/curve.base", Rows.laid_veil_curve_base), ("veil/veilref01.Zero", Rows.laid_veil_veilref01_Zero), ("veil/veilref01.One", Rows.laid_veil_veilref01_One), ("veil/veilref01.prime", Rows.laid_veil_veilref01_prime)] [.data, .wider, .data, .data, .data, .wider, .data] true :=
  Program.laidByTextLater_by_one 55 8 36 (by kernel_rfl) (by kernel_rfl) (by kernel_rfl) (by kernel_rfl) (by kernel_rfl) (by kernel_rfl) (fun _ _ => by kernel_rfl)
theorem noOwnUnsafe : Tryd.pinned.checked.prog.headLifts.contains "ownunsafe" = false := by kernel_rfl
theorem tie : Tryd.prog.laidByTextLater [("veil/field.table", Rows.laid_veil_field_table), ("veil/curve.one", Rows.laid_veil_curve_one), ("veil/curve.twice", Rows.laid_veil_curve_twice), ("veil/veilref01.Zero", Rows.laid_veil_veilref01_Zero), ("veil/veilref01.One", Rows.laid_veil_veilref01_One), ("veil/veilref01.prime", Rows.laid_veil_veilref01_prime)] [.data, .wider, .data, .data, .wider, .data] true :=
  Program.laidByTextLater.sub seatTie1 ["veil/field.table", "veil/curve.one", "veil/curve.twice", "veil/veilref01.Zero", "veil/veilref01.One", "veil/veilref01.prime"] (by kernel_rfl) (by kernel_rfl)
theorem groupMaps_row_tie : Rows.groupMapsRow.laidByTextAt .later Tryd.pinned [.data, .wider, .data, .data, .wider, .data] true :=
  OpenClaim.laidByTextAt_later rfl rfl tie noOwnUnsafe
theorem tie2 : Tryd.prog.laidByTextLater [("veil/field.table", Rows.laid_veil_field_table), ("veil/curve.one", Rows.laid_veil_curve_one), ("veil/curve.twice", Rows.laid_veil_curve_twice), ("veil/curve.base", Rows.laid_veil_curve_base), ("veil/veilref01.Zero", Rows.laid_veil_veilref01_Zero), ("veil/veilref01.One", Rows.laid_veil_veilref01_One), ("veil/veilref01.prime", Rows.laid_veil_veilref01_prime)] [.data, .wider, .data, .data, .data, .wider, .data] true :=
  Program.laidByTextLater.sub seatTie1 ["veil/field.table", "veil/curve.one", "veil/curve.twice", "veil/curve.base", "veil/veilref01.Zero", "veil/veilref01.One", "veil/veilref01.prime"] (by kernel_rfl) (by kernel_rfl)
theorem groupDecodes_row_tie : Rows.groupDecodesRow.laidByTextAt .later Tryd.pinned [.data, .wider, .data, .data, .data, .wider, .data] true :=
  OpenClaim.laidByTextAt_later rfl rfl tie2 noOwnUnsafe
theorem groupMapsUpto_row_tie : Rows.groupMapsUptoRow.laidByTextAt .later Tryd.pinned [.data, .wider, .data, .data, .wider, .data] true :=
  OpenClaim.laidByTextAt_later rfl rfl tie noOwnUnsafe
theorem groupDecodesUpto_row_tie : Rows.groupDecodesUptoRow.laidByTextAt .later Tryd.pinned [.data, .wider, .data, .data, .data, .wider, .data] true :=
  OpenClaim.laidByTextAt_later rfl rfl tie2 noOwnUnsafe
end Go.Proofs.YtkilkhhnbhdbbaaDoor
