/-
  DERIVED. GIVEN WITH THE SEED: THE PROGRAM's TIES (one call each: nine closed facts by the kernel) AND EACH ROW's TIE, after the 31st guide's Derived/Test/Toyas{Tie, Card}.lean. No idea stands in it: it is a product of the set-up. Laid BY PROGRAM, IN A SANDBOX (cutbox-door.mjs). By AI agents, Wed Nov 11 2026. No macro, syntax, notation, axiom, sorry.
-/
import Derived.Test.YtoionfdfofmplaaDoorRows
import Derived.LaidByTextLater
import Derived.SevenTiedAt
import Derived.LaidSub
import Derived.LaidOnce
namespace Go.Proofs.YtoionfdfofmplaaDoor
open Go
set_option maxRecDepth 100000
theorem seatTie1 : Tryd.prog.laidByTextLater [("veil/veilref03.round", Rows.laid_veil_veilref03_round), ("veil/veilref03.first", Rows.laid_veil_veilref03_first), ("veil/scalar.table", Rows.laid_veil_scalar_table), ("veil/veilref01.Zero", Rows.laid_veil_veilref01_Zero), ("veil/veilref01.One", Rows.laid_veil_veilref01_One), ("veil/veilref01.prime", Rows.laid_veil_veilref01_prime)] [.data, .data, .data, .data, .wider, .data] true :=
  Program.laidByTextLater_by_one 43 8 81 (by kernel_rfl) (by kernel_rfl) (by kernel_rfl) (by kernel_rfl) (by kernel_rfl) (by kernel_rfl) (fun _ _ => by kernel_rfl)
theorem noOwnUnsafe : Tryd.pinned.checked.prog.headLifts.contains "ownunsafe" = false := by kernel_rfl
theorem tie : Tryd.prog.laidByTextLater [("veil/veilref03.round", Rows.laid_veil_veilref03_round), ("veil/veilref03.first", Rows.laid_veil_veilref03_first), ("veil/scalar.table", Rows.laid_veil_scalar_table), ("veil/veilref01.Zero", Rows.laid_veil_veilref01_Zero), ("veil/veilref01.One", Rows.laid_veil_veilref01_One), ("veil/veilref01.prime", Rows.laid_veil_veilref01_prime)] [.data, .data, .data, .data, .wider, .data] true :=
  Program.laidByTextLater.sub seatTie1 ["veil/veilref03.round", "veil/veilref03.first", "veil/scalar.table", "veil/veilref01.Zero", "veil/veilref01.One", "veil/veilref01.prime"] (by kernel_rfl) (by kernel_rfl)
theorem wireEncodes_row_tie : Rows.wireEncodesRow.laidByTextAt .later Tryd.pinned [.data, .data, .data, .data, .wider, .data] true :=
  OpenClaim.laidByTextAt_later rfl rfl tie noOwnUnsafe
theorem wireAgain_row_tie : Rows.wireAgainRow.laidByTextAt .later Tryd.pinned [.data, .data, .data, .data, .wider, .data] true :=
  OpenClaim.laidByTextAt_later rfl rfl tie noOwnUnsafe
theorem wireOwn_row_tie : Rows.wireOwnRow.laidByTextAt .later Tryd.pinned [.data, .data, .data, .data, .wider, .data] true :=
  OpenClaim.laidByTextAt_later rfl rfl tie noOwnUnsafe
theorem tie2 : Tryd.prog.laidByTextLater [("veil/scalar.table", Rows.laid_veil_scalar_table)] [.data] true :=
  Program.laidByTextLater.sub seatTie1 ["veil/scalar.table"] (by kernel_rfl) (by kernel_rfl)
theorem wireProofs_row_tie : Rows.wireProofsRow.laidByTextAt .later Tryd.pinned [.data] true :=
  OpenClaim.laidByTextAt_later rfl rfl tie2 noOwnUnsafe
theorem wireEncodesUpto_row_tie : Rows.wireEncodesUptoRow.laidByTextAt .later Tryd.pinned [.data, .data, .data, .data, .wider, .data] true :=
  OpenClaim.laidByTextAt_later rfl rfl tie noOwnUnsafe
theorem wireAgainUpto_row_tie : Rows.wireAgainUptoRow.laidByTextAt .later Tryd.pinned [.data, .data, .data, .data, .wider, .data] true :=
  OpenClaim.laidByTextAt_later rfl rfl tie noOwnUnsafe
theorem wireProofsUpto_row_tie : Rows.wireProofsUptoRow.laidByTextAt .later Tryd.pinned [.data] true :=
  OpenClaim.laidByTextAt_later rfl rfl tie2 noOwnUnsafe
theorem wireOwnUpto_row_tie : Rows.wireOwnUptoRow.laidByTextAt .later Tryd.pinned [.data, .data, .data, .data, .wider, .data] true :=
  OpenClaim.laidByTextAt_later rfl rfl tie noOwnUnsafe
end Go.Proofs.YtoionfdfofmplaaDoor
