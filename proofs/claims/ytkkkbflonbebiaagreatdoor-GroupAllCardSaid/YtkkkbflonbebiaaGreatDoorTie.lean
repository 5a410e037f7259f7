/-
  DERIVED. GIVEN WITH THE SEED: THE PROGRAM's TIES (one call each: nine closed facts by the kernel) AND EACH ROW's TIE, after the 31st guide's Derived/Test/Toyas{Tie, Card}.lean. No idea stands in it: it is a product of the set-up. Laid BY PROGRAM, IN A SANDBOX (cutbox-door.mjs). By AI agents, Wed Nov 11 2026. No macro, syntax, notation, axiom, sorry.
-/
import Derived.Test.YtkkkbflonbebiaaGreatDoorRows
import Derived.LaidByTextLater
import Derived.SevenTiedAt
import Derived.LaidSub
import Derived.LaidOnce
namespace Go.Proofs.YtkkkbflonbebiaaGreatDoor
open Go
set_option maxRecDepth 100000
theorem seatTie1 : Tryz.prog.laidByTextLater [("veil/field.table", Rows.laid_veil_field_table), ("veil/curve.one", Rows.laid_veil_curve_one), ("veil/curve.twice", Rows.laid_veil_curve_twice), ("veil/curve.torsions", Rows.laid_veil_curve_torsions), ("veil/curve.order", Rows.laid_veil_curve_order), ("veil/veilref01.Zero", Rows.laid_veil_veilref01_Zero), ("veil/veilref01.One", Rows.laid_veil_veilref01_One), ("veil/veilref01.prime", Rows.laid_veil_veilref01_prime)] [.data, .wider, .data, .data, .data, .data, .wider, .data] true :=
  Program.laidByTextLater_by_one 117 8 161 (by kernel_rfl) (by kernel_rfl) (by kernel_rfl) (by kernel_rfl) (by kernel_rfl) (by kernel_rfl) (fun _ _ => by kernel_rfl)
theorem seatTie2 : Tryz.prog.laidByTextLater [("veil/field.table", Rows.laid_veil_field_table), ("veil/scalar.table", Rows.laid_veil_scalar_table), ("veil/curve.one", Rows.laid_veil_curve_one), ("veil/curve.twice", Rows.laid_veil_curve_twice), ("veil/curve.base", Rows.laid_veil_curve_base), ("veil/curve.torsions", Rows.laid_veil_curve_torsions), ("veil/curve.order", Rows.laid_veil_curve_order), ("veil/veilref01.Zero", Rows.laid_veil_veilref01_Zero), ("veil/veilref01.One", Rows.laid_veil_veilref01_One), ("veil/veilref01.prime", Rows.laid_veil_veilref01_prime)] [.data, .data, .wider, .data, .data, .data, .data, .data, .wider, .data] true :=
  Program.laidByTextLater_by_one 117 8 161 (by kernel_rfl) (by kernel_rfl) (by kernel_rfl) (by kernel_rfl) (by kernel_rfl) (by kernel_rfl) (fun _ _ => by kernel_rfl)
theorem noOwnUnsafe : Tryz.pinned.checked.prog.headLifts.contains "ownunsafe" = false := by kernel_rfl
theorem tie : Tryz.prog.laidByTextLater [("veil/field.table", Rows.laid_veil_field_table), ("veil/curve.one", Rows.laid_veil_curve_one), ("veil/curve.twice", Rows.laid_veil_curve_twice), ("veil/curve.torsions", Rows.laid_veil_curve_torsions), ("veil/curve.order", Rows.laid_veil_curve_order), ("veil/veilref01.Zero", Rows.laid_veil_veilref01_Zero), ("veil/veilref01.One", Rows.laid_veil_veilref01_One), ("veil/veilref01.prime", Rows.laid_veil_veilref01_prime)] [.data, .wider, .data, .data, .data, .data, .wider, .data] true :=
  Program.laidByTextLater.sub seatTie1 ["veil/field.table", "veil/curve.one", "veil/curve.twice", "veil/curve.torsions", "veil/curve.order", "veil/veilref01.Zero", "veil/veilref01.One", "veil/veilref01.prime"] (by kernel_rfl) (by kernel_rfl)
theorem groupCosets_row_tie : Rows.groupCosetsRow.laidByTextAt .later Tryz.pinned [.data, .wider, .data, .data, .data, .data, .wider, .data] true :=
  OpenClaim.laidByTextAt_later rfl rfl tie noOwnUnsafe
theorem tie2 : Tryz.prog.laidByTextLater [("veil/field.table", Rows.laid_veil_field_table), ("veil/scalar.table", Rows.laid_veil_scalar_table), ("veil/curve.one", Rows.laid_veil_curve_one), ("veil/curve.twice", Rows.laid_veil_curve_twice), ("veil/curve.base", Rows.laid_veil_curve_base), ("veil/curve.torsions", Rows.laid_veil_curve_torsions), ("veil/curve.order", Rows.laid_veil_curve_order), ("veil/veilref01.Zero", Rows.laid_veil_veilref01_Zero), ("veil/veilref01.One", Rows.laid_veil_veilref01_One), ("veil/veilref01.prime", Rows.laid_veil_veilref01_prime)] [.data, .data, .wider, .data, .data, .data, .data, .data, .wider, .data] true :=
  Program.laidByTextLater.sub seatTie2 ["veil/field.table", "veil/scalar.table", "veil/curve.one", "veil/curve.twice", "veil/curve.base", "veil/curve.torsions", "veil/curve.order", "veil/veilref01.Zero", "veil/veilref01.One", "veil/veilref01.prime"] (by kernel_rfl) (by kernel_rfl)
theorem groupAll_row_tie : Rows.groupAllRow.laidByTextAt .later Tryz.pinned [.data, .data, .wider, .data, .data, .data, .data, .data, .wider, .data] true :=
  OpenClaim.laidByTextAt_later rfl rfl tie2 noOwnUnsafe
theorem groupCosetsUpto_row_tie : Rows.groupCosetsUptoRow.laidByTextAt .later Tryz.pinned [.data, .wider, .data, .data, .data, .data, .wider, .data] true :=
  OpenClaim.laidByTextAt_later rfl rfl tie noOwnUnsafe
theorem groupAllUpto_row_tie : Rows.groupAllUptoRow.laidByTextAt .later Tryz.pinned [.data, .data, .wider, .data, .data, .data, .data, .data, .wider, .data] true :=
  OpenClaim.laidByTextAt_later rfl rfl tie2 noOwnUnsafe
end Go.Proofs.YtkkkbflonbebiaaGreatDoor
