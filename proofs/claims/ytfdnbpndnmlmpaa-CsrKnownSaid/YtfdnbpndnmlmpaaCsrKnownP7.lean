/-
A part of the proof: The types that this seat's functions name are those of the program.
-/
import Derived.Test.YtfdnbpndnmlmpaaProg
import Derived.Test.YtfdnbpndnmlmpaaChecked
import Derived.Test.YtfdnbpndnmlmpaaCsrKnownP6

set_option linter.unusedVariables false
set_option linter.unusedSimpArgs false

namespace Go.Mir
open Go.Proofs

def csrRows : Rows :=
  [(2, 1, .int .i64),
    (22, 1, .int .u64),
    (24, 9, .st [(4, 0), (3, 1), (3, 2), (3, 3), (3, 4), (3, 5), (3, 6), (4, 7), (22, 8)]),
    (4, 1, .bool),
    (3, 1, .int .i64),
    (25, 288, .arr 32 24),
    (27, 396, .st [(25, 0), (24, 288), (24, 297), (24, 306), (24, 315), (24, 324), (24, 333), (24, 342), (24, 351), (24, 360), (24, 369), (3, 378), (22, 379), (22, 380), (22, 381), (22, 382), (22, 383), (22, 384), (22, 385), (22, 386), (22, 387), (22, 388), (22, 389), (22, 390), (22, 391), (22, 392), (22, 393), (22, 394), (4, 395)]),
    (31, 3, .st [(4, 0), (3, 1), (22, 2)]),
    (45, 1, .slc 3),
    (46, 1, .int .u64),
    (49, 1, .slc 24),
    (50, 1, .fnc),
    (51, 1, .fnc),
    (53, 2, .st [(50, 0), (51, 1)]),
    (61, 2, .st [(22, 0), (22, 1)]),
    (64, 1, .slc 45),
    (65, 2, .arr 2 3),
    (66, 10, .arr 5 65),
    (72, 1, .fnc),
    (78, 1, .fnc),
    (80, 3, .st [(22, 0), (22, 1), (4, 2)]),
    (85, 2, .st [(22, 0), (22, 1)]),
    (89, 2, .st [(22, 0), (22, 1)])]

set_option maxRecDepth 100000
theorem csr_und : (csrRows.all fun r => undB Try.prog r.1 r.2.2) = true := by kernel_rfl
theorem csr_info : (csrRows.map fun r => infoOf Try.prog r.1) = csrRows.map fun r => some (r.2.1, csrRows.zc 9 r.1) := by kernel_rfl
theorem csr_len : (csrRows.all fun r => Nat.beq (csrRows.zlen 9 r.1) r.2.1) = true := by kernel_rfl
theorem csr_fs : (csrRows.all fun r => fieldsB csrRows r.2.2) = true := by kernel_rfl
theorem csr_plain : (csrRows.all fun r => !aggB r.2.2 || (!Try.prog.eqGuardType Try.prog.depth r.1 && !Try.prog.stoodInHeld r.1)) = true := by kernel_rfl
theorem csr_tab : TabOk Try.prog csrRows := tab_of ⟨csr_und, csr_info, csr_len, csr_fs, csr_plain⟩
theorem csr_mix : Try.prog.follows .mixedOrders = true := by kernel_rfl

end Go.Mir
