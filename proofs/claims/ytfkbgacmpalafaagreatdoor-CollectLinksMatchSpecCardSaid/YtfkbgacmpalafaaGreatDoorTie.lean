/-
  DERIVED. GIVEN WITH THE SEED: THE PROGRAM's TIES (one call each: nine closed facts by the kernel) AND EACH ROW's TIE, after the 31st guide's Derived/Test/Toyas{Tie, Card}.lean. No idea stands in it: it is a product of the set-up. Laid BY PROGRAM, IN A SANDBOX (cutbox-door.mjs). By AI agents, Wed Nov 11 2026. No macro, syntax, notation, axiom, sorry.
-/
import Derived.Test.YtfkbgacmpalafaaGreatDoorRows
import Derived.LaidByTextLater
import Derived.SevenTiedAt
import Derived.LaidSub
import Derived.LaidOnce
namespace Go.Proofs.YtfkbgacmpalafaaGreatDoor
open Go
set_option maxRecDepth 100000
theorem seatTie1 : Tryz.prog.laidByTextLater [("alum/pointer.pointers", Rows.laid_alum_pointer_pointers), ("alum/pointer.headers", Rows.laid_alum_pointer_headers), ("math/bits.deBruijn32tab", Rows.laid_math_bits_deBruijn32tab), ("math/bits.deBruijn64tab", Rows.laid_math_bits_deBruijn64tab), ("alum/collect.kinds", Rows.laid_alum_collect_kinds)] [.data, .data, .data, .data, .mapped] true :=
  Program.laidByTextLater_by_one 87 8 65 (by kernel_rfl) (by kernel_rfl) (by kernel_rfl) (by kernel_rfl) (by kernel_rfl) (by kernel_rfl) (fun _ _ => by kernel_rfl)
theorem noOwnUnsafe : Tryz.pinned.checked.prog.headLifts.contains "ownunsafe" = false := by kernel_rfl
theorem tie : Tryz.prog.laidByTextLater [("alum/pointer.pointers", Rows.laid_alum_pointer_pointers), ("alum/pointer.headers", Rows.laid_alum_pointer_headers), ("math/bits.deBruijn32tab", Rows.laid_math_bits_deBruijn32tab), ("math/bits.deBruijn64tab", Rows.laid_math_bits_deBruijn64tab), ("alum/collect.kinds", Rows.laid_alum_collect_kinds)] [.data, .data, .data, .data, .mapped] true :=
  Program.laidByTextLater.sub seatTie1 ["alum/pointer.pointers", "alum/pointer.headers", "math/bits.deBruijn32tab", "math/bits.deBruijn64tab", "alum/collect.kinds"] (by kernel_rfl) (by kernel_rfl)
theorem collectLinksMatchSpec_row_tie : Rows.collectLinksMatchSpecRow.laidByTextAt .later Tryz.pinned [.data, .data, .data, .data, .mapped] true :=
  OpenClaim.laidByTextAt_later rfl rfl tie noOwnUnsafe
theorem collectTracesAsSpecified_row_tie : Rows.collectTracesAsSpecifiedRow.laidByTextAt .later Tryz.pinned [.data, .data, .data, .data, .mapped] true :=
  OpenClaim.laidByTextAt_later rfl rfl tie noOwnUnsafe
theorem collectGivesAsSpecified_row_tie : Rows.collectGivesAsSpecifiedRow.laidByTextAt .later Tryz.pinned [.data, .data, .data, .data, .mapped] true :=
  OpenClaim.laidByTextAt_later rfl rfl tie noOwnUnsafe
theorem collectLinksMatchSpecUpto_row_tie : Rows.collectLinksMatchSpecUptoRow.laidByTextAt .later Tryz.pinned [.data, .data, .data, .data, .mapped] true :=
  OpenClaim.laidByTextAt_later rfl rfl tie noOwnUnsafe
theorem collectTracesAsSpecifiedUpto_row_tie : Rows.collectTracesAsSpecifiedUptoRow.laidByTextAt .later Tryz.pinned [.data, .data, .data, .data, .mapped] true :=
  OpenClaim.laidByTextAt_later rfl rfl tie noOwnUnsafe
theorem collectGivesAsSpecifiedUpto_row_tie : Rows.collectGivesAsSpecifiedUptoRow.laidByTextAt .later Tryz.pinned [.data, .data, .data, .data, .mapped] true :=
  OpenClaim.laidByTextAt_later rfl rfl tie noOwnUnsafe
end Go.Proofs.YtfkbgacmpalafaaGreatDoor
