/-
  No cell of these rows narrows 'for every input' (looked for: loops, veiled, ifaces, maps, wideKeys, modest, calm, conditions, laid).
  DERIVED. THE GIVEN ROWS OF THIS SEAT. 7 by the template 'for every input the law returns true; each argument reads behind the call as it read before'; 0 by the template 'total and deterministic' (their statements: YtmepbafmocjnaaaTotals.lean).
  GIVEN WITH THE SEED: the statements are not yours to turn. If you find one false, say at which input.
  Laid BY PROGRAM, IN A SANDBOX (cutbox-rows.mjs): the forced cells as the released guide's own fill.sh prints them over the translation 42dde1b266376eaa… (all of the seat's roots in one cut). By AI agents, Wed Nov 11 2026. No macro, syntax, notation, axiom, sorry.
-/
import Derived.Test.YtmepbafmocjnaaaChecked
import GoSem.Claim
import GoSem.ClaimJoined
import GoSem.ClaimMapViews
import Derived.JoinedTies
import Derived.KernelRfl
namespace Go.Proofs.Ytmepbafmocjnaaa
/- THE CELL 'sum', in the pinned program and in every row, IS THE sha256 OF THE DUMP (.gsa) THAT YtmepbafmocjnaaaProg.lean LOADS. Nothing in Lean hashes anything: it is a label: what it is worth is what the hold of that sum in a sandbox is worth. -/
noncomputable def Try.pinned : Pinned := { name := "ytmepbafmocjnaaa", sum := "42dde1b266376eaaceb94288b32ba8f03b47cf8daa14a87fd095517f1b74c6e6", checked := Try.checked }
namespace Rows
def none {H : Type} : Left H := { results := [], args := [] }

/-- 'accordionlaw03.WidthTells': WHATEVER THE INPUT: true; the input reads as it did. -/
def widthTellsSpec : ChangeSpec := { name := "widthTells", fn := fun _ => fun
  | [d1, d2] => { results := [.lit (.bool true)], args := [d1, d2] }
  | _ => none }
def widthTellsRow : OpenClaim := { program := "ytmepbafmocjnaaa", sum := "42dde1b266376eaaceb94288b32ba8f03b47cf8daa14a87fd095517f1b74c6e6", func := "accordion/accordionlaw03.WidthTells", spec := "widthTells", apart := false }
def WidthTellsSaid : Prop := widthTellsRow.holds Try.pinned (OpenSpec.ofChange widthTellsSpec)

/-- ITS FALSE NEIGHBOUR: 'it returns false'. Refute it at one input. -/
def widthTellsWrong : ChangeSpec := { name := "widthTells", fn := fun _ => fun
  | [d1, d2] => { results := [.lit (.bool false)], args := [d1, d2] }
  | _ => none }
def WidthTellsWrongFalsely : Prop := widthTellsRow.holds Try.pinned (OpenSpec.ofChange widthTellsWrong)

/-- 'accordionlaw03.WidthPlaces': WHATEVER THE INPUT: true; the input reads as it did. -/
def widthPlacesSpec : ChangeSpec := { name := "widthPlaces", fn := fun _ => fun
  | [d1, d2, d3] => { results := [.lit (.bool true)], args := [d1, d2, d3] }
  | _ => none }
def widthPlacesRow : OpenClaim := { program := "ytmepbafmocjnaaa", sum := "42dde1b266376eaaceb94288b32ba8f03b47cf8daa14a87fd095517f1b74c6e6", func := "accordion/accordionlaw03.WidthPlaces", spec := "widthPlaces", apart := false }
def WidthPlacesSaid : Prop := widthPlacesRow.holds Try.pinned (OpenSpec.ofChange widthPlacesSpec)

/-- ITS FALSE NEIGHBOUR: 'it returns false'. Refute it at one input. -/
def widthPlacesWrong : ChangeSpec := { name := "widthPlaces", fn := fun _ => fun
  | [d1, d2, d3] => { results := [.lit (.bool false)], args := [d1, d2, d3] }
  | _ => none }
def WidthPlacesWrongFalsely : Prop := widthPlacesRow.holds Try.pinned (OpenSpec.ofChange widthPlacesWrong)

/-- 'accordionlaw03.WidthLeast': WHATEVER THE INPUT: true; the input reads as it did. -/
def widthLeastSpec : ChangeSpec := { name := "widthLeast", fn := fun _ => fun
  | [d] => { results := [.lit (.bool true)], args := [d] }
  | _ => none }
def widthLeastRow : OpenClaim := { program := "ytmepbafmocjnaaa", sum := "42dde1b266376eaaceb94288b32ba8f03b47cf8daa14a87fd095517f1b74c6e6", func := "accordion/accordionlaw03.WidthLeast", spec := "widthLeast", apart := false }
def WidthLeastSaid : Prop := widthLeastRow.holds Try.pinned (OpenSpec.ofChange widthLeastSpec)

/-- ITS FALSE NEIGHBOUR: 'it returns false'. Refute it at one input. -/
def widthLeastWrong : ChangeSpec := { name := "widthLeast", fn := fun _ => fun
  | [d] => { results := [.lit (.bool false)], args := [d] }
  | _ => none }
def WidthLeastWrongFalsely : Prop := widthLeastRow.holds Try.pinned (OpenSpec.ofChange widthLeastWrong)

/-- 'accordionlaw03.WidthGrows': WHATEVER THE INPUT: true; the input reads as it did. -/
def widthGrowsSpec : ChangeSpec := { name := "widthGrows", fn := fun _ => fun
  | [d1, d2] => { results := [.lit (.bool true)], args := [d1, d2] }
  | _ => none }
def widthGrowsRow : OpenClaim := { program := "ytmepbafmocjnaaa", sum := "42dde1b266376eaaceb94288b32ba8f03b47cf8daa14a87fd095517f1b74c6e6", func := "accordion/accordionlaw03.WidthGrows", spec := "widthGrows", apart := false }
def WidthGrowsSaid : Prop := widthGrowsRow.holds Try.pinned (OpenSpec.ofChange widthGrowsSpec)

/-- ITS FALSE NEIGHBOUR: 'it returns false'. Refute it at one input. -/
def widthGrowsWrong : ChangeSpec := { name := "widthGrows", fn := fun _ => fun
  | [d1, d2] => { results := [.lit (.bool false)], args := [d1, d2] }
  | _ => none }
def WidthGrowsWrongFalsely : Prop := widthGrowsRow.holds Try.pinned (OpenSpec.ofChange widthGrowsWrong)

/-- 'accordionlaw03.WidthUp': WHATEVER THE INPUT: true; the input reads as it did. -/
def widthUpSpec : ChangeSpec := { name := "widthUp", fn := fun _ => fun
  | [d1, d2] => { results := [.lit (.bool true)], args := [d1, d2] }
  | _ => none }
def widthUpRow : OpenClaim := { program := "ytmepbafmocjnaaa", sum := "42dde1b266376eaaceb94288b32ba8f03b47cf8daa14a87fd095517f1b74c6e6", func := "accordion/accordionlaw03.WidthUp", spec := "widthUp", apart := false }
def WidthUpSaid : Prop := widthUpRow.holds Try.pinned (OpenSpec.ofChange widthUpSpec)

/-- ITS FALSE NEIGHBOUR: 'it returns false'. Refute it at one input. -/
def widthUpWrong : ChangeSpec := { name := "widthUp", fn := fun _ => fun
  | [d1, d2] => { results := [.lit (.bool false)], args := [d1, d2] }
  | _ => none }
def WidthUpWrongFalsely : Prop := widthUpRow.holds Try.pinned (OpenSpec.ofChange widthUpWrong)

/-- 'accordionlaw03.WidthMax': WHATEVER THE INPUT: true; the input reads as it did. -/
def widthMaxSpec : ChangeSpec := { name := "widthMax", fn := fun _ => fun
  | [d1, d2, d3] => { results := [.lit (.bool true)], args := [d1, d2, d3] }
  | _ => none }
def widthMaxRow : OpenClaim := { program := "ytmepbafmocjnaaa", sum := "42dde1b266376eaaceb94288b32ba8f03b47cf8daa14a87fd095517f1b74c6e6", func := "accordion/accordionlaw03.WidthMax", spec := "widthMax", apart := false }
def WidthMaxSaid : Prop := widthMaxRow.holds Try.pinned (OpenSpec.ofChange widthMaxSpec)

/-- ITS FALSE NEIGHBOUR: 'it returns false'. Refute it at one input. -/
def widthMaxWrong : ChangeSpec := { name := "widthMax", fn := fun _ => fun
  | [d1, d2, d3] => { results := [.lit (.bool false)], args := [d1, d2, d3] }
  | _ => none }
def WidthMaxWrongFalsely : Prop := widthMaxRow.holds Try.pinned (OpenSpec.ofChange widthMaxWrong)

/-- 'accordionlaw03.WidthKnown': WHATEVER THE INPUT: true; the input reads as it did. -/
def widthKnownSpec : ChangeSpec := { name := "widthKnown", fn := fun _ => fun
  | [] => { results := [.lit (.bool true)], args := [] }
  | _ => none }
def widthKnownRow : OpenClaim := { program := "ytmepbafmocjnaaa", sum := "42dde1b266376eaaceb94288b32ba8f03b47cf8daa14a87fd095517f1b74c6e6", func := "accordion/accordionlaw03.WidthKnown", spec := "widthKnown", apart := false }
def WidthKnownSaid : Prop := widthKnownRow.holds Try.pinned (OpenSpec.ofChange widthKnownSpec)

/-- ITS FALSE NEIGHBOUR: 'it returns false'. Refute it at one input. -/
def widthKnownWrong : ChangeSpec := { name := "widthKnown", fn := fun _ => fun
  | [] => { results := [.lit (.bool false)], args := [] }
  | _ => none }
def WidthKnownWrongFalsely : Prop := widthKnownRow.holds Try.pinned (OpenSpec.ofChange widthKnownWrong)

/- THE SECOND FORM. 'bulk': how many values and letters a reading holds, each counted each time it is reached (what is shared counts as often as it is met; a slice's spare places count too). A statement '..UptoSaid' is the law's where the arguments, and the package variables that the reading takes, are together of bulk at most 1048576: NARROWER than '..Said'. Prove '..Said' where nothing that the law and all that it calls make is longer than what came in: it says more and counts as full. Else prove '..UptoSaid'. A law counts once. -/
mutual
def uptoBulk {H : Type} : DataW H → Nat
  | .lit (.string bytes) => bytes.length + 1
  | .lit _ => 1
  | .nil => 1
  | .ptr d => uptoBulk d + 1
  | .slice elems spare => uptoBulkAll elems + uptoBulkAll spare + 1
  | .agg parts => uptoBulkAll parts + 1
  | .iface _ d => uptoBulk d + 1
  | .map entries => uptoBulkEntries entries + 1
  | .held _ => 1
def uptoBulkAll {H : Type} : List (DataW H) → Nat
  | [] => 0
  | d :: r => uptoBulk d + uptoBulkAll r
def uptoBulkEntries {H : Type} : List (Lit × DataW H) → Nat
  | [] => 0
  | x :: r => uptoBulkEntry x + uptoBulkEntries r
def uptoBulkEntry {H : Type} : Lit × DataW H → Nat
  | (.string bytes, d) => bytes.length + uptoBulk d + 1
  | (_, d) => uptoBulk d + 1
 end
def uptoSmall : (H : Type) → List (DataW H) → Bool := fun _ ds => decide (uptoBulkAll ds ≤ 1048576)
def OpenSpec.upto (s : _root_.Go.ChangeSpec) : _root_.Go.OpenSpec := { _root_.Go.OpenSpec.ofChange s with cond := some uptoSmall }

/-- 'accordionlaw03.WidthTells', WHERE WHAT IT READS IS OF BULK AT MOST 1048576: true; the input reads as it did. -/
def widthTellsUptoRow : OpenClaim := { program := "ytmepbafmocjnaaa", sum := "42dde1b266376eaaceb94288b32ba8f03b47cf8daa14a87fd095517f1b74c6e6", func := "accordion/accordionlaw03.WidthTells", spec := "widthTells", apart := false, narrowed := true }
def WidthTellsUptoSaid : Prop := widthTellsUptoRow.holds Try.pinned (OpenSpec.upto widthTellsSpec)

/-- 'accordionlaw03.WidthPlaces', WHERE WHAT IT READS IS OF BULK AT MOST 1048576: true; the input reads as it did. -/
def widthPlacesUptoRow : OpenClaim := { program := "ytmepbafmocjnaaa", sum := "42dde1b266376eaaceb94288b32ba8f03b47cf8daa14a87fd095517f1b74c6e6", func := "accordion/accordionlaw03.WidthPlaces", spec := "widthPlaces", apart := false, narrowed := true }
def WidthPlacesUptoSaid : Prop := widthPlacesUptoRow.holds Try.pinned (OpenSpec.upto widthPlacesSpec)

/-- 'accordionlaw03.WidthLeast', WHERE WHAT IT READS IS OF BULK AT MOST 1048576: true; the input reads as it did. -/
def widthLeastUptoRow : OpenClaim := { program := "ytmepbafmocjnaaa", sum := "42dde1b266376eaaceb94288b32ba8f03b47cf8daa14a87fd095517f1b74c6e6", func := "accordion/accordionlaw03.WidthLeast", spec := "widthLeast", apart := false, narrowed := true }
def WidthLeastUptoSaid : Prop := widthLeastUptoRow.holds Try.pinned (OpenSpec.upto widthLeastSpec)

/-- 'accordionlaw03.WidthGrows', WHERE WHAT IT READS IS OF BULK AT MOST 1048576: true; the input reads as it did. -/
def widthGrowsUptoRow : OpenClaim := { program := "ytmepbafmocjnaaa", sum := "42dde1b266376eaaceb94288b32ba8f03b47cf8daa14a87fd095517f1b74c6e6", func := "accordion/accordionlaw03.WidthGrows", spec := "widthGrows", apart := false, narrowed := true }
def WidthGrowsUptoSaid : Prop := widthGrowsUptoRow.holds Try.pinned (OpenSpec.upto widthGrowsSpec)

/-- 'accordionlaw03.WidthUp', WHERE WHAT IT READS IS OF BULK AT MOST 1048576: true; the input reads as it did. -/
def widthUpUptoRow : OpenClaim := { program := "ytmepbafmocjnaaa", sum := "42dde1b266376eaaceb94288b32ba8f03b47cf8daa14a87fd095517f1b74c6e6", func := "accordion/accordionlaw03.WidthUp", spec := "widthUp", apart := false, narrowed := true }
def WidthUpUptoSaid : Prop := widthUpUptoRow.holds Try.pinned (OpenSpec.upto widthUpSpec)

/-- 'accordionlaw03.WidthMax', WHERE WHAT IT READS IS OF BULK AT MOST 1048576: true; the input reads as it did. -/
def widthMaxUptoRow : OpenClaim := { program := "ytmepbafmocjnaaa", sum := "42dde1b266376eaaceb94288b32ba8f03b47cf8daa14a87fd095517f1b74c6e6", func := "accordion/accordionlaw03.WidthMax", spec := "widthMax", apart := false, narrowed := true }
def WidthMaxUptoSaid : Prop := widthMaxUptoRow.holds Try.pinned (OpenSpec.upto widthMaxSpec)

/-- 'accordionlaw03.WidthKnown', WHERE WHAT IT READS IS OF BULK AT MOST 1048576: true; the input reads as it did. -/
def widthKnownUptoRow : OpenClaim := { program := "ytmepbafmocjnaaa", sum := "42dde1b266376eaaceb94288b32ba8f03b47cf8daa14a87fd095517f1b74c6e6", func := "accordion/accordionlaw03.WidthKnown", spec := "widthKnown", apart := false, narrowed := true }
def WidthKnownUptoSaid : Prop := widthKnownUptoRow.holds Try.pinned (OpenSpec.upto widthKnownSpec)

end Rows
end Go.Proofs.Ytmepbafmocjnaaa
