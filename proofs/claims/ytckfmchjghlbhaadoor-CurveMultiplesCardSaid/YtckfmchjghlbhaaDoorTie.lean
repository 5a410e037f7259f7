/-
  DERIVED. GIVEN WITH THE SEED: THE PROGRAM's TIES (one call each: nine closed facts by the kernel) AND EACH ROW's TIE, after the 31st guide's Derived/Test/Toyas{Tie, Card}.lean. No idea stands in it: it is a product of the set-up. Laid BY PROGRAM, IN A SANDBOX (cutbox-door.mjs). By AI agents, Wed Nov 11 2026. No macro, syntax, notation, axiom, sorry.
-/
import Derived.Test.YtckfmchjghlbhaaDoorRows
import Derived.LaidByTextLater
import Derived.SevenTiedAt
import Derived.LaidSub
import Derived.LaidOnce
namespace Go.Proofs.YtckfmchjghlbhaaDoor
open Go
set_option maxRecDepth 100000
theorem seatTie1 : Tryd.prog.laidByTextLater [("veil/field.table", Rows.laid_veil_field_table), ("veil/curve.one", Rows.laid_veil_curve_one), ("veil/curve.twice", Rows.laid_veil_curve_twice), ("veil/curve.base", Rows.laid_veil_curve_base), ("veil/curve.torsions", Rows.laid_veil_curve_torsions), ("veil/curve.order", Rows.laid_veil_curve_order), ("veil/veillaw04.order", Rows.laid_veil_veillaw04_order)] [.data, .wider, .data, .data, .data, .data, .data] true :=
  Program.laidByTextLater_by_one 107 8 161 (by kernel_rfl) (by kernel_rfl) (by kernel_rfl) (by kernel_rfl) (by kernel_rfl) (by kernel_rfl) (fun _ _ => by kernel_rfl)
theorem seatTie2 : Tryd.prog.laidByTextLater [("veil/field.table", Rows.laid_veil_field_table), ("veil/scalar.table", Rows.laid_veil_scalar_table), ("veil/curve.one", Rows.laid_veil_curve_one), ("veil/curve.twice", Rows.laid_veil_curve_twice), ("veil/curve.base", Rows.laid_veil_curve_base), ("veil/curve.torsions", Rows.laid_veil_curve_torsions), ("veil/curve.order", Rows.laid_veil_curve_order), ("veil/veillaw04.order", Rows.laid_veil_veillaw04_order)] [.data, .data, .wider, .data, .data, .data, .data, .data] true :=
  Program.laidByTextLater_by_one 107 8 161 (by kernel_rfl) (by kernel_rfl) (by kernel_rfl) (by kernel_rfl) (by kernel_rfl) (by kernel_rfl) (fun _ _ => by kernel_rfl)
theorem noOwnUnsafe : Tryd.pinned.checked.prog.headLifts.contains "ownunsafe" = false := by kernel_rfl
theorem tie : Tryd.prog.laidByTextLater [("veil/field.table", Rows.laid_veil_field_table), ("veil/curve.one", Rows.laid_veil_curve_one), ("veil/curve.twice", Rows.laid_veil_curve_twice), ("veil/curve.base", Rows.laid_veil_curve_base), ("veil/curve.torsions", Rows.laid_veil_curve_torsions), ("veil/curve.order", Rows.laid_veil_curve_order), ("veil/veillaw04.order", Rows.laid_veil_veillaw04_order)] [.data, .wider, .data, .data, .data, .data, .data] true :=
  Program.laidByTextLater.sub seatTie1 ["veil/field.table", "veil/curve.one", "veil/curve.twice", "veil/curve.base", "veil/curve.torsions", "veil/curve.order", "veil/veillaw04.order"] (by kernel_rfl) (by kernel_rfl)
theorem curveTorsion_row_tie : Rows.curveTorsionRow.laidByTextAt .later Tryd.pinned [.data, .wider, .data, .data, .data, .data, .data] true :=
  OpenClaim.laidByTextAt_later rfl rfl tie noOwnUnsafe
theorem curveLaws_row_tie : Rows.curveLawsRow.laidByTextAt .later Tryd.pinned [.data, .wider, .data, .data, .data, .data, .data] true :=
  OpenClaim.laidByTextAt_later rfl rfl tie noOwnUnsafe
theorem curveBack_row_tie : Rows.curveBackRow.laidByTextAt .later Tryd.pinned [.data, .wider, .data, .data, .data, .data, .data] true :=
  OpenClaim.laidByTextAt_later rfl rfl tie noOwnUnsafe
theorem tie2 : Tryd.prog.laidByTextLater [("veil/field.table", Rows.laid_veil_field_table), ("veil/scalar.table", Rows.laid_veil_scalar_table), ("veil/curve.one", Rows.laid_veil_curve_one), ("veil/curve.twice", Rows.laid_veil_curve_twice), ("veil/curve.base", Rows.laid_veil_curve_base), ("veil/curve.torsions", Rows.laid_veil_curve_torsions), ("veil/curve.order", Rows.laid_veil_curve_order), ("veil/veillaw04.order", Rows.laid_veil_veillaw04_order)] [.data, .data, .wider, .data, .data, .data, .data, .data] true :=
  Program.laidByTextLater.sub seatTie2 ["veil/field.table", "veil/scalar.table", "veil/curve.one", "veil/curve.twice", "veil/curve.base", "veil/curve.torsions", "veil/curve.order", "veil/veillaw04.order"] (by kernel_rfl) (by kernel_rfl)
theorem curveMultiples_row_tie : Rows.curveMultiplesRow.laidByTextAt .later Tryd.pinned [.data, .data, .wider, .data, .data, .data, .data, .data] true :=
  OpenClaim.laidByTextAt_later rfl rfl tie2 noOwnUnsafe
theorem curveTorsionUpto_row_tie : Rows.curveTorsionUptoRow.laidByTextAt .later Tryd.pinned [.data, .wider, .data, .data, .data, .data, .data] true :=
  OpenClaim.laidByTextAt_later rfl rfl tie noOwnUnsafe
theorem curveLawsUpto_row_tie : Rows.curveLawsUptoRow.laidByTextAt .later Tryd.pinned [.data, .wider, .data, .data, .data, .data, .data] true :=
  OpenClaim.laidByTextAt_later rfl rfl tie noOwnUnsafe
theorem curveBackUpto_row_tie : Rows.curveBackUptoRow.laidByTextAt .later Tryd.pinned [.data, .wider, .data, .data, .data, .data, .data] true :=
  OpenClaim.laidByTextAt_later rfl rfl tie noOwnUnsafe
theorem curveMultiplesUpto_row_tie : Rows.curveMultiplesUptoRow.laidByTextAt .later Tryd.pinned [.data, .data, .wider, .data, .data, .data, .data, .data] true :=
  OpenClaim.laidByTextAt_later rfl rfl tie2 noOwnUnsafe
end Go.Proofs.YtckfmchjghlbhaaDoor
