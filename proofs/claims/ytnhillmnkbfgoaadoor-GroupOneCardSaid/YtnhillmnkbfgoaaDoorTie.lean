/-
  DERIVED. GIVEN WITH THE SEED: THE PROGRAM's TIES (one call each: nine closed facts by the kernel) AND EACH ROW's TIE, after the 31st guide's Derived/Test/Toyas{Tie, Card}.lean. No idea stands in it: it is a product of the set-up. Laid BY PROGRAM, IN A SANDBOX (cutbox-door.mjs). By AI agents, Wed Nov 11 2026. No macro, syntax, notation, axiom, sorry.
-/
import Derived.Test.YtnhillmnkbfgoaaDoorRows
import Derived.LaidByTextLater
import Derived.SevenTiedAt
import Derived.LaidSub
import Derived.LaidOnce
namespace Go.Proofs.YtnhillmnkbfgoaaDoor
open Go
set_option maxRecDepth 100000
theorem seatTie1 : Tryd.prog.laidByTextLater [("veil/field.table", Rows.laid_veil_field_table), ("veil/scalar.table", Rows.laid_veil_scalar_table), ("veil/curve.one", Rows.laid_veil_curve_one), ("veil/curve.twice", Rows.laid_veil_curve_twice), ("veil/curve.base", Rows.laid_veil_curve_base)] [.data, .data, .wider, .data, .data] true :=
  Program.laidByTextLater_by_one 102 8 161 (by kernel_rfl) (by kernel_rfl) (by kernel_rfl) (by kernel_rfl) (by kernel_rfl) (by kernel_rfl) (fun _ _ => by kernel_rfl)
theorem seatTie2 : Tryd.prog.laidByTextLater [("veil/field.table", Rows.laid_veil_field_table), ("veil/scalar.table", Rows.laid_veil_scalar_table), ("veil/curve.one", Rows.laid_veil_curve_one), ("veil/curve.twice", Rows.laid_veil_curve_twice), ("veil/curve.base", Rows.laid_veil_curve_base), ("veil/curve.torsions", Rows.laid_veil_curve_torsions), ("veil/curve.order", Rows.laid_veil_curve_order)] [.data, .data, .wider, .data, .data, .data, .data] true :=
  Program.laidByTextLater_by_one 102 8 161 (by kernel_rfl) (by kernel_rfl) (by kernel_rfl) (by kernel_rfl) (by kernel_rfl) (by kernel_rfl) (fun _ _ => by kernel_rfl)
theorem noOwnUnsafe : Tryd.pinned.checked.prog.headLifts.contains "ownunsafe" = false := by kernel_rfl
theorem tie : Tryd.prog.laidByTextLater [("veil/field.table", Rows.laid_veil_field_table), ("veil/scalar.table", Rows.laid_veil_scalar_table), ("veil/curve.one", Rows.laid_veil_curve_one), ("veil/curve.twice", Rows.laid_veil_curve_twice), ("veil/curve.base", Rows.laid_veil_curve_base)] [.data, .data, .wider, .data, .data] true :=
  Program.laidByTextLater.sub seatTie1 ["veil/field.table", "veil/scalar.table", "veil/curve.one", "veil/curve.twice", "veil/curve.base"] (by kernel_rfl) (by kernel_rfl)
theorem groupLaws_row_tie : Rows.groupLawsRow.laidByTextAt .later Tryd.pinned [.data, .data, .wider, .data, .data] true :=
  OpenClaim.laidByTextAt_later rfl rfl tie noOwnUnsafe
theorem tie2 : Tryd.prog.laidByTextLater [("veil/field.table", Rows.laid_veil_field_table), ("veil/scalar.table", Rows.laid_veil_scalar_table), ("veil/curve.one", Rows.laid_veil_curve_one), ("veil/curve.twice", Rows.laid_veil_curve_twice), ("veil/curve.base", Rows.laid_veil_curve_base), ("veil/curve.torsions", Rows.laid_veil_curve_torsions), ("veil/curve.order", Rows.laid_veil_curve_order)] [.data, .data, .wider, .data, .data, .data, .data] true :=
  Program.laidByTextLater.sub seatTie2 ["veil/field.table", "veil/scalar.table", "veil/curve.one", "veil/curve.twice", "veil/curve.base", "veil/curve.torsions", "veil/curve.order"] (by kernel_rfl) (by kernel_rfl)
theorem groupLimbs_row_tie : Rows.groupLimbsRow.laidByTextAt .later Tryd.pinned [.data, .data, .wider, .data, .data, .data, .data] true :=
  OpenClaim.laidByTextAt_later rfl rfl tie2 noOwnUnsafe
theorem groupOne_row_tie : Rows.groupOneRow.laidByTextAt .later Tryd.pinned [.data, .data, .wider, .data, .data, .data, .data] true :=
  OpenClaim.laidByTextAt_later rfl rfl tie2 noOwnUnsafe
theorem groupLawsUpto_row_tie : Rows.groupLawsUptoRow.laidByTextAt .later Tryd.pinned [.data, .data, .wider, .data, .data] true :=
  OpenClaim.laidByTextAt_later rfl rfl tie noOwnUnsafe
theorem groupLimbsUpto_row_tie : Rows.groupLimbsUptoRow.laidByTextAt .later Tryd.pinned [.data, .data, .wider, .data, .data, .data, .data] true :=
  OpenClaim.laidByTextAt_later rfl rfl tie2 noOwnUnsafe
theorem groupOneUpto_row_tie : Rows.groupOneUptoRow.laidByTextAt .later Tryd.pinned [.data, .data, .wider, .data, .data, .data, .data] true :=
  OpenClaim.laidByTextAt_later rfl rfl tie2 noOwnUnsafe
end Go.Proofs.YtnhillmnkbfgoaaDoor
