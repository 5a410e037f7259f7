/-
  DERIVED. GIVEN WITH THE SEED: THE PROGRAM's TIES (one call each: nine closed facts by the kernel) AND EACH ROW's TIE, after the 31st guide's Derived/Test/Toyas{Tie, Card}.lean. No idea stands in it: it is a product of the set-up. Laid BY PROGRAM, IN A SANDBOX (cutbox-door.mjs). By AI agents, Wed Nov 11 2026. No macro, syntax, notation, axiom, sorry.
-/
import Derived.Test.YtmoiobmpeohgnaaGreatDoorRows
import Derived.LaidByTextLater
import Derived.SevenTiedAt
import Derived.LaidSub
import Derived.LaidOnce
namespace Go.Proofs.YtmoiobmpeohgnaaGreatDoor
open Go
set_option maxRecDepth 100000
theorem seatTie1 : Tryz.prog.laidByTextLater [("veil/field.table", Rows.laid_veil_field_table), ("veil/scalar.table", Rows.laid_veil_scalar_table), ("veil/curve.one", Rows.laid_veil_curve_one), ("veil/curve.twice", Rows.laid_veil_curve_twice), ("veil/curve.base", Rows.laid_veil_curve_base), ("veil/curve.torsions", Rows.laid_veil_curve_torsions), ("veil/curve.order", Rows.laid_veil_curve_order), ("veil/veilref01.Zero", Rows.laid_veil_veilref01_Zero), ("veil/veilref01.One", Rows.laid_veil_veilref01_One), ("veil/veilref01.prime", Rows.laid_veil_veilref01_prime), ("veil/veillaw04.order", Rows.laid_veil_veillaw04_order)] [.data, .data, .wider, .data, .data, .data, .data, .data, .wider, .data, .data] true :=
  Program.laidByTextLater_by_one 122 8 161 (by kernel_rfl) (by kernel_rfl) (by kernel_rfl) (by kernel_rfl) (by kernel_rfl) (by kernel_rfl) (fun _ _ => by kernel_rfl)
theorem noOwnUnsafe : Tryz.pinned.checked.prog.headLifts.contains "ownunsafe" = false := by kernel_rfl
theorem tie : Tryz.prog.laidByTextLater [("veil/field.table", Rows.laid_veil_field_table), ("veil/scalar.table", Rows.laid_veil_scalar_table), ("veil/curve.one", Rows.laid_veil_curve_one), ("veil/curve.twice", Rows.laid_veil_curve_twice), ("veil/curve.base", Rows.laid_veil_curve_base), ("veil/curve.torsions", Rows.laid_veil_curve_torsions), ("veil/curve.order", Rows.laid_veil_curve_order), ("veil/veilref01.Zero", Rows.laid_veil_veilref01_Zero), ("veil/veilref01.One", Rows.laid_veil_veilref01_One), ("veil/veilref01.prime", Rows.laid_veil_veilref01_prime), ("veil/veillaw04.order", Rows.laid_veil_veillaw04_order)] [.data, .data, .wider, .data, .data, .data, .data, .data, .wider, .data, .data] true :=
  Program.laidByTextLater.sub seatTie1 ["veil/field.table", "veil/scalar.table", "veil/curve.one", "veil/curve.twice", "veil/curve.base", "veil/curve.torsions", "veil/curve.order", "veil/veilref01.Zero", "veil/veilref01.One", "veil/veilref01.prime", "veil/veillaw04.order"] (by kernel_rfl) (by kernel_rfl)
theorem curveAsks_row_tie : Rows.curveAsksRow.laidByTextAt .later Tryz.pinned [.data, .data, .wider, .data, .data, .data, .data, .data, .wider, .data, .data] true :=
  OpenClaim.laidByTextAt_later rfl rfl tie noOwnUnsafe
theorem curveAsksUpto_row_tie : Rows.curveAsksUptoRow.laidByTextAt .later Tryz.pinned [.data, .data, .wider, .data, .data, .data, .data, .data, .wider, .data, .data] true :=
  OpenClaim.laidByTextAt_later rfl rfl tie noOwnUnsafe
end Go.Proofs.YtmoiobmpeohgnaaGreatDoor
