/-
  No cell of these rows narrows 'for every input' (looked for: loops, veiled, ifaces, maps, wideKeys, modest, calm, conditions, laid).
  DERIVED. THE GIVEN ROWS OF THIS SEAT. 5 by the template 'for every input the law returns true; each argument reads behind the call as it read before'; 0 by the template 'total and deterministic' (their statements: YtfdnbpndnmlmpaaTotals.lean).
  GIVEN WITH THE SEED: the statements are not yours to turn. If you find one false, say at which input.
  Laid BY PROGRAM, IN A SANDBOX (cutbox-rows.mjs): the forced cells as the released guide's own fill.sh prints them over the translation c771935ffabff748… (all of the seat's roots in one cut). By AI agents, Wed Nov 11 2026. No macro, syntax, notation, axiom, sorry.
-/
import Derived.Test.YtfdnbpndnmlmpaaChecked
import GoSem.Claim
import GoSem.ClaimJoined
import GoSem.ClaimMapViews
import Derived.JoinedTies
import Derived.KernelRfl
namespace Go.Proofs.Ytfdnbpndnmlmpaa
/- THE CELL 'sum', in the pinned program and in every row, IS THE sha256 OF THE DUMP (.gsa) THAT YtfdnbpndnmlmpaaProg.lean LOADS. Nothing in Lean hashes anything: it is a label: what it is worth is what the hold of that sum in a sandbox is worth. -/
noncomputable def Try.pinned : Pinned := { name := "ytfdnbpndnmlmpaa", sum := "c771935ffabff7489f53c8a9b15dc97795b8eb273847a09f3c57ddfbd91ac7cb", checked := Try.checked }
namespace Rows
def none {H : Type} : Left H := { results := [], args := [] }

/-- 'ravelinlaw16.CsrTells': WHATEVER THE INPUT: true; the input reads as it did. -/
def csrTellsSpec : ChangeSpec := { name := "csrTells", fn := fun _ => fun
  | [d1, d2, d3, d4, d5, d6] => { results := [.lit (.bool true)], args := [d1, d2, d3, d4, d5, d6] }
  | _ => none }
def csrTellsRow : OpenClaim := { program := "ytfdnbpndnmlmpaa", sum := "c771935ffabff7489f53c8a9b15dc97795b8eb273847a09f3c57ddfbd91ac7cb", func := "ravelin/ravelinlaw16.CsrTells", spec := "csrTells", inPlace := ["math/bits.Add64"], unfollowed := true, recurses := true, apart := false }
def CsrTellsSaid : Prop := csrTellsRow.holds Try.pinned (OpenSpec.ofChange csrTellsSpec)

/-- ITS FALSE NEIGHBOUR: 'it returns false'. Refute it at one input. -/
def csrTellsWrong : ChangeSpec := { name := "csrTells", fn := fun _ => fun
  | [d1, d2, d3, d4, d5, d6] => { results := [.lit (.bool false)], args := [d1, d2, d3, d4, d5, d6] }
  | _ => none }
def CsrTellsWrongFalsely : Prop := csrTellsRow.holds Try.pinned (OpenSpec.ofChange csrTellsWrong)

/-- 'ravelinlaw16.CsrBack': WHATEVER THE INPUT: true; the input reads as it did. -/
def csrBackSpec : ChangeSpec := { name := "csrBack", fn := fun _ => fun
  | [d1, d2, d3] => { results := [.lit (.bool true)], args := [d1, d2, d3] }
  | _ => none }
def csrBackRow : OpenClaim := { program := "ytfdnbpndnmlmpaa", sum := "c771935ffabff7489f53c8a9b15dc97795b8eb273847a09f3c57ddfbd91ac7cb", func := "ravelin/ravelinlaw16.CsrBack", spec := "csrBack", inPlace := ["math/bits.Add64"], unfollowed := true, recurses := true, apart := false }
def CsrBackSaid : Prop := csrBackRow.holds Try.pinned (OpenSpec.ofChange csrBackSpec)

/-- ITS FALSE NEIGHBOUR: 'it returns false'. Refute it at one input. -/
def csrBackWrong : ChangeSpec := { name := "csrBack", fn := fun _ => fun
  | [d1, d2, d3] => { results := [.lit (.bool false)], args := [d1, d2, d3] }
  | _ => none }
def CsrBackWrongFalsely : Prop := csrBackRow.holds Try.pinned (OpenSpec.ofChange csrBackWrong)

/-- 'ravelinlaw16.CsrOnly': WHATEVER THE INPUT: true; the input reads as it did. -/
def csrOnlySpec : ChangeSpec := { name := "csrOnly", fn := fun _ => fun
  | [d1, d2, d3, d4, d5, d6] => { results := [.lit (.bool true)], args := [d1, d2, d3, d4, d5, d6] }
  | _ => none }
def csrOnlyRow : OpenClaim := { program := "ytfdnbpndnmlmpaa", sum := "c771935ffabff7489f53c8a9b15dc97795b8eb273847a09f3c57ddfbd91ac7cb", func := "ravelin/ravelinlaw16.CsrOnly", spec := "csrOnly", inPlace := ["math/bits.Add64"], unfollowed := true, recurses := true, apart := false }
def CsrOnlySaid : Prop := csrOnlyRow.holds Try.pinned (OpenSpec.ofChange csrOnlySpec)

/-- ITS FALSE NEIGHBOUR: 'it returns false'. Refute it at one input. -/
def csrOnlyWrong : ChangeSpec := { name := "csrOnly", fn := fun _ => fun
  | [d1, d2, d3, d4, d5, d6] => { results := [.lit (.bool false)], args := [d1, d2, d3, d4, d5, d6] }
  | _ => none }
def CsrOnlyWrongFalsely : Prop := csrOnlyRow.holds Try.pinned (OpenSpec.ofChange csrOnlyWrong)

/-- 'ravelinlaw16.CsrMore': WHATEVER THE INPUT: true; the input reads as it did. -/
def csrMoreSpec : ChangeSpec := { name := "csrMore", fn := fun _ => fun
  | [d1, d2, d3] => { results := [.lit (.bool true)], args := [d1, d2, d3] }
  | _ => none }
def csrMoreRow : OpenClaim := { program := "ytfdnbpndnmlmpaa", sum := "c771935ffabff7489f53c8a9b15dc97795b8eb273847a09f3c57ddfbd91ac7cb", func := "ravelin/ravelinlaw16.CsrMore", spec := "csrMore", inPlace := ["math/bits.Add64"], unfollowed := true, recurses := true, apart := false }
def CsrMoreSaid : Prop := csrMoreRow.holds Try.pinned (OpenSpec.ofChange csrMoreSpec)

/-- ITS FALSE NEIGHBOUR: 'it returns false'. Refute it at one input. -/
def csrMoreWrong : ChangeSpec := { name := "csrMore", fn := fun _ => fun
  | [d1, d2, d3] => { results := [.lit (.bool false)], args := [d1, d2, d3] }
  | _ => none }
def CsrMoreWrongFalsely : Prop := csrMoreRow.holds Try.pinned (OpenSpec.ofChange csrMoreWrong)

/-- 'ravelinlaw16.CsrKnown': WHATEVER THE INPUT: true; the input reads as it did. -/
def csrKnownSpec : ChangeSpec := { name := "csrKnown", fn := fun _ => fun
  | [] => { results := [.lit (.bool true)], args := [] }
  | _ => none }
def csrKnownRow : OpenClaim := { program := "ytfdnbpndnmlmpaa", sum := "c771935ffabff7489f53c8a9b15dc97795b8eb273847a09f3c57ddfbd91ac7cb", func := "ravelin/ravelinlaw16.CsrKnown", spec := "csrKnown", inPlace := ["math/bits.Add64"], unfollowed := true, recurses := true, apart := false }
def CsrKnownSaid : Prop := csrKnownRow.holds Try.pinned (OpenSpec.ofChange csrKnownSpec)

/-- ITS FALSE NEIGHBOUR: 'it returns false'. Refute it at one input. -/
def csrKnownWrong : ChangeSpec := { name := "csrKnown", fn := fun _ => fun
  | [] => { results := [.lit (.bool false)], args := [] }
  | _ => none }
def CsrKnownWrongFalsely : Prop := csrKnownRow.holds Try.pinned (OpenSpec.ofChange csrKnownWrong)

/- THE SECOND FORM. 'bulk': how many values and letters a reading holds, each counted each time it is reached (what is shared counts as often as it is met; a slice's spare places count too). A statement '..UptoSaid' is the law's where the arguments, and the package variables that the reading takes, are together of bulk at most 1048576: NARROWER than '..Said'. Prove '..Said' where nothing that the law and all that it calls make is longer than what came in: it says more and counts as full. Else prove '..UptoSaid'. A law counts once. -/
mutual
def uptoBulk {H : Type} : DataW H → Nat
  | .lit (.string bytes) => bytes.length + 1
  | .lit _ => 1
  | .nil => 1
  | .ptr d => uptoBulk d + 1
  | .slice elems spare => uptoBulkAll elems + uptoBulkAll spare + 1
  | .agg parts => uptoBulkAll parts + 1
  | .iface _ d => uptoBulk d + 1
  | .map entries => uptoBulkEntries entries + 1
  | .held _ => 1
def uptoBulkAll {H : Type} : List (DataW H) → Nat
  | [] => 0
  | d :: r => uptoBulk d + uptoBulkAll r
def uptoBulkEntries {H : Type} : List (Lit × DataW H) → Nat
  | [] => 0
  | x :: r => uptoBulkEntry x + uptoBulkEntries r
def uptoBulkEntry {H : Type} : Lit × DataW H → Nat
  | (.string bytes, d) => bytes.length + uptoBulk d + 1
  | (_, d) => uptoBulk d + 1
 end
def uptoSmall : (H : Type) → List (DataW H) → Bool := fun _ ds => decide (uptoBulkAll ds ≤ 1048576)
def OpenSpec.upto (s : _root_.Go.ChangeSpec) : _root_.Go.OpenSpec := { _root_.Go.OpenSpec.ofChange s with cond := some uptoSmall }

/-- 'ravelinlaw16.CsrTells', WHERE WHAT IT READS IS OF BULK AT MOST 1048576: true; the input reads as it did. -/
def csrTellsUptoRow : OpenClaim := { program := "ytfdnbpndnmlmpaa", sum := "c771935ffabff7489f53c8a9b15dc97795b8eb273847a09f3c57ddfbd91ac7cb", func := "ravelin/ravelinlaw16.CsrTells", spec := "csrTells", inPlace := ["math/bits.Add64"], unfollowed := true, recurses := true, apart := false, narrowed := true }
def CsrTellsUptoSaid : Prop := csrTellsUptoRow.holds Try.pinned (OpenSpec.upto csrTellsSpec)

/-- 'ravelinlaw16.CsrBack', WHERE WHAT IT READS IS OF BULK AT MOST 1048576: true; the input reads as it did. -/
def csrBackUptoRow : OpenClaim := { program := "ytfdnbpndnmlmpaa", sum := "c771935ffabff7489f53c8a9b15dc97795b8eb273847a09f3c57ddfbd91ac7cb", func := "ravelin/ravelinlaw16.CsrBack", spec := "csrBack", inPlace := ["math/bits.Add64"], unfollowed := true, recurses := true, apart := false, narrowed := true }
def CsrBackUptoSaid : Prop := csrBackUptoRow.holds Try.pinned (OpenSpec.upto csrBackSpec)

/-- 'ravelinlaw16.CsrOnly', WHERE WHAT IT READS IS OF BULK AT MOST 1048576: true; the input reads as it did. -/
def csrOnlyUptoRow : OpenClaim := { program := "ytfdnbpndnmlmpaa", sum := "c771935ffabff7489f53c8a9b15dc97795b8eb273847a09f3c57ddfbd91ac7cb", func := "ravelin/ravelinlaw16.CsrOnly", spec := "csrOnly", inPlace := ["math/bits.Add64"], unfollowed := true, recurses := true, apart := false, narrowed := true }
def CsrOnlyUptoSaid : Prop := csrOnlyUptoRow.holds Try.pinned (OpenSpec.upto csrOnlySpec)

/-- 'ravelinlaw16.CsrMore', WHERE WHAT IT READS IS OF BULK AT MOST 1048576: true; the input reads as it did. -/
def csrMoreUptoRow : OpenClaim := { program := "ytfdnbpndnmlmpaa", sum := "c771935ffabff7489f53c8a9b15dc97795b8eb273847a09f3c57ddfbd91ac7cb", func := "ravelin/ravelinlaw16.CsrMore", spec := "csrMore", inPlace := ["math/bits.Add64"], unfollowed := true, recurses := true, apart := false, narrowed := true }
def CsrMoreUptoSaid : Prop := csrMoreUptoRow.holds Try.pinned (OpenSpec.upto csrMoreSpec)

/-- 'ravelinlaw16.CsrKnown', WHERE WHAT IT READS IS OF BULK AT MOST 1048576: true; the input reads as it did. -/
def csrKnownUptoRow : OpenClaim := { program := "ytfdnbpndnmlmpaa", sum := "c771935ffabff7489f53c8a9b15dc97795b8eb273847a09f3c57ddfbd91ac7cb", func := "ravelin/ravelinlaw16.CsrKnown", spec := "csrKnown", inPlace := ["math/bits.Add64"], unfollowed := true, recurses := true, apart := false, narrowed := true }
def CsrKnownUptoSaid : Prop := csrKnownUptoRow.holds Try.pinned (OpenSpec.upto csrKnownSpec)

end Rows
end Go.Proofs.Ytfdnbpndnmlmpaa
