/-
  No cell of these rows narrows 'for every input' (looked for: loops, veiled, ifaces, maps, wideKeys, modest, calm, conditions, laid).
  DERIVED. THE GIVEN ROWS OF THIS SEAT. 8 by the template 'for every input the law returns true; each argument reads behind the call as it read before'; 0 by the template 'total and deterministic' (their statements: YtcoboifdmpeelaaTotals.lean).
  GIVEN WITH THE SEED: the statements are not yours to turn. If you find one false, say at which input.
  Laid BY PROGRAM, IN A SANDBOX (cutbox-rows.mjs): the forced cells as the released guide's own fill.sh prints them over the translation 146b326287beeab5… (all of the seat's roots in one cut). By AI agents, Wed Nov 11 2026. No macro, syntax, notation, axiom, sorry.
-/
import Derived.Test.YtcoboifdmpeelaaChecked
import GoSem.Claim
import GoSem.ClaimJoined
import GoSem.ClaimMapViews
import Derived.JoinedTies
import Derived.KernelRfl
namespace Go.Proofs.Ytcoboifdmpeelaa
/- THE CELL 'sum', in the pinned program and in every row, IS THE sha256 OF THE DUMP (.gsa) THAT YtcoboifdmpeelaaProg.lean LOADS. Nothing in Lean hashes anything: it is a label: what it is worth is what the hold of that sum in a sandbox is worth. -/
noncomputable def Try.pinned : Pinned := { name := "ytcoboifdmpeelaa", sum := "146b326287beeab504a1332a0ccd4f26837a7110b6beeda4a054d17a22caae5b", checked := Try.checked }
namespace Rows
def none {H : Type} : Left H := { results := [], args := [] }

/-- 'accordionlaw05.B64Puts': WHATEVER THE INPUT: true; the input reads as it did. -/
def b64PutsSpec : ChangeSpec := { name := "b64Puts", fn := fun _ => fun
  | [d] => { results := [.lit (.bool true)], args := [d] }
  | _ => none }
def b64PutsRow : OpenClaim := { program := "ytcoboifdmpeelaa", sum := "146b326287beeab504a1332a0ccd4f26837a7110b6beeda4a054d17a22caae5b", func := "accordion/accordionlaw05.B64Puts", spec := "b64Puts", inPlace := ["internal/abi.NoEscape", "internal/bytealg.IndexByteString"], apart := false }
def B64PutsSaid : Prop := b64PutsRow.holds Try.pinned (OpenSpec.ofChange b64PutsSpec)

/-- ITS FALSE NEIGHBOUR: 'it returns false'. Refute it at one input. -/
def b64PutsWrong : ChangeSpec := { name := "b64Puts", fn := fun _ => fun
  | [d] => { results := [.lit (.bool false)], args := [d] }
  | _ => none }
def B64PutsWrongFalsely : Prop := b64PutsRow.holds Try.pinned (OpenSpec.ofChange b64PutsWrong)

/-- 'accordionlaw05.B64Gets': WHATEVER THE INPUT: true; the input reads as it did. -/
def b64GetsSpec : ChangeSpec := { name := "b64Gets", fn := fun _ => fun
  | [d] => { results := [.lit (.bool true)], args := [d] }
  | _ => none }
def b64GetsRow : OpenClaim := { program := "ytcoboifdmpeelaa", sum := "146b326287beeab504a1332a0ccd4f26837a7110b6beeda4a054d17a22caae5b", func := "accordion/accordionlaw05.B64Gets", spec := "b64Gets", inPlace := ["internal/bytealg.IndexByteString", "internal/abi.NoEscape"], apart := false }
def B64GetsSaid : Prop := b64GetsRow.holds Try.pinned (OpenSpec.ofChange b64GetsSpec)

/-- ITS FALSE NEIGHBOUR: 'it returns false'. Refute it at one input. -/
def b64GetsWrong : ChangeSpec := { name := "b64Gets", fn := fun _ => fun
  | [d] => { results := [.lit (.bool false)], args := [d] }
  | _ => none }
def B64GetsWrongFalsely : Prop := b64GetsRow.holds Try.pinned (OpenSpec.ofChange b64GetsWrong)

/-- 'accordionlaw05.B64Back': WHATEVER THE INPUT: true; the input reads as it did. -/
def b64BackSpec : ChangeSpec := { name := "b64Back", fn := fun _ => fun
  | [d] => { results := [.lit (.bool true)], args := [d] }
  | _ => none }
def b64BackRow : OpenClaim := { program := "ytcoboifdmpeelaa", sum := "146b326287beeab504a1332a0ccd4f26837a7110b6beeda4a054d17a22caae5b", func := "accordion/accordionlaw05.B64Back", spec := "b64Back", inPlace := ["internal/abi.NoEscape", "internal/bytealg.IndexByteString"], apart := false }
def B64BackSaid : Prop := b64BackRow.holds Try.pinned (OpenSpec.ofChange b64BackSpec)

/-- ITS FALSE NEIGHBOUR: 'it returns false'. Refute it at one input. -/
def b64BackWrong : ChangeSpec := { name := "b64Back", fn := fun _ => fun
  | [d] => { results := [.lit (.bool false)], args := [d] }
  | _ => none }
def B64BackWrongFalsely : Prop := b64BackRow.holds Try.pinned (OpenSpec.ofChange b64BackWrong)

/-- 'accordionlaw05.B64Only': WHATEVER THE INPUT: true; the input reads as it did. -/
def b64OnlySpec : ChangeSpec := { name := "b64Only", fn := fun _ => fun
  | [d] => { results := [.lit (.bool true)], args := [d] }
  | _ => none }
def b64OnlyRow : OpenClaim := { program := "ytcoboifdmpeelaa", sum := "146b326287beeab504a1332a0ccd4f26837a7110b6beeda4a054d17a22caae5b", func := "accordion/accordionlaw05.B64Only", spec := "b64Only", inPlace := ["internal/abi.NoEscape", "internal/bytealg.IndexByteString"], apart := false }
def B64OnlySaid : Prop := b64OnlyRow.holds Try.pinned (OpenSpec.ofChange b64OnlySpec)

/-- ITS FALSE NEIGHBOUR: 'it returns false'. Refute it at one input. -/
def b64OnlyWrong : ChangeSpec := { name := "b64Only", fn := fun _ => fun
  | [d] => { results := [.lit (.bool false)], args := [d] }
  | _ => none }
def B64OnlyWrongFalsely : Prop := b64OnlyRow.holds Try.pinned (OpenSpec.ofChange b64OnlyWrong)

/-- 'accordionlaw05.B64Joins': WHATEVER THE INPUT: true; the input reads as it did. -/
def b64JoinsSpec : ChangeSpec := { name := "b64Joins", fn := fun _ => fun
  | [d1, d2] => { results := [.lit (.bool true)], args := [d1, d2] }
  | _ => none }
def b64JoinsRow : OpenClaim := { program := "ytcoboifdmpeelaa", sum := "146b326287beeab504a1332a0ccd4f26837a7110b6beeda4a054d17a22caae5b", func := "accordion/accordionlaw05.B64Joins", spec := "b64Joins", inPlace := ["internal/abi.NoEscape", "internal/bytealg.IndexByteString"], apart := false }
def B64JoinsSaid : Prop := b64JoinsRow.holds Try.pinned (OpenSpec.ofChange b64JoinsSpec)

/-- ITS FALSE NEIGHBOUR: 'it returns false'. Refute it at one input. -/
def b64JoinsWrong : ChangeSpec := { name := "b64Joins", fn := fun _ => fun
  | [d1, d2] => { results := [.lit (.bool false)], args := [d1, d2] }
  | _ => none }
def B64JoinsWrongFalsely : Prop := b64JoinsRow.holds Try.pinned (OpenSpec.ofChange b64JoinsWrong)

/-- 'accordionlaw05.B64Cut': WHATEVER THE INPUT: true; the input reads as it did. -/
def b64CutSpec : ChangeSpec := { name := "b64Cut", fn := fun _ => fun
  | [d1, d2] => { results := [.lit (.bool true)], args := [d1, d2] }
  | _ => none }
def b64CutRow : OpenClaim := { program := "ytcoboifdmpeelaa", sum := "146b326287beeab504a1332a0ccd4f26837a7110b6beeda4a054d17a22caae5b", func := "accordion/accordionlaw05.B64Cut", spec := "b64Cut", inPlace := ["internal/abi.NoEscape", "internal/bytealg.IndexByteString"], apart := false }
def B64CutSaid : Prop := b64CutRow.holds Try.pinned (OpenSpec.ofChange b64CutSpec)

/-- ITS FALSE NEIGHBOUR: 'it returns false'. Refute it at one input. -/
def b64CutWrong : ChangeSpec := { name := "b64Cut", fn := fun _ => fun
  | [d1, d2] => { results := [.lit (.bool false)], args := [d1, d2] }
  | _ => none }
def B64CutWrongFalsely : Prop := b64CutRow.holds Try.pinned (OpenSpec.ofChange b64CutWrong)

/-- 'accordionlaw05.B64Place': WHATEVER THE INPUT: true; the input reads as it did. -/
def b64PlaceSpec : ChangeSpec := { name := "b64Place", fn := fun _ => fun
  | [d1, d2] => { results := [.lit (.bool true)], args := [d1, d2] }
  | _ => none }
def b64PlaceRow : OpenClaim := { program := "ytcoboifdmpeelaa", sum := "146b326287beeab504a1332a0ccd4f26837a7110b6beeda4a054d17a22caae5b", func := "accordion/accordionlaw05.B64Place", spec := "b64Place", inPlace := ["internal/bytealg.IndexByteString", "internal/abi.NoEscape"], apart := false }
def B64PlaceSaid : Prop := b64PlaceRow.holds Try.pinned (OpenSpec.ofChange b64PlaceSpec)

/-- ITS FALSE NEIGHBOUR: 'it returns false'. Refute it at one input. -/
def b64PlaceWrong : ChangeSpec := { name := "b64Place", fn := fun _ => fun
  | [d1, d2] => { results := [.lit (.bool false)], args := [d1, d2] }
  | _ => none }
def B64PlaceWrongFalsely : Prop := b64PlaceRow.holds Try.pinned (OpenSpec.ofChange b64PlaceWrong)

/-- 'accordionlaw05.B64Known': WHATEVER THE INPUT: true; the input reads as it did. -/
def b64KnownSpec : ChangeSpec := { name := "b64Known", fn := fun _ => fun
  | [] => { results := [.lit (.bool true)], args := [] }
  | _ => none }
def b64KnownRow : OpenClaim := { program := "ytcoboifdmpeelaa", sum := "146b326287beeab504a1332a0ccd4f26837a7110b6beeda4a054d17a22caae5b", func := "accordion/accordionlaw05.B64Known", spec := "b64Known", inPlace := ["internal/bytealg.IndexByteString", "internal/abi.NoEscape"], apart := false }
def B64KnownSaid : Prop := b64KnownRow.holds Try.pinned (OpenSpec.ofChange b64KnownSpec)

/-- ITS FALSE NEIGHBOUR: 'it returns false'. Refute it at one input. -/
def b64KnownWrong : ChangeSpec := { name := "b64Known", fn := fun _ => fun
  | [] => { results := [.lit (.bool false)], args := [] }
  | _ => none }
def B64KnownWrongFalsely : Prop := b64KnownRow.holds Try.pinned (OpenSpec.ofChange b64KnownWrong)

/- THE SECOND FORM. 'bulk': how many values and letters a reading holds, each counted each time it is reached (what is shared counts as often as it is met; a slice's spare places count too). A statement '..UptoSaid' is the law's where the arguments, and the package variables that the reading takes, are together of bulk at most 1048576: NARROWER than '..Said'. Prove '..Said' where nothing that the law and all that it calls make is longer than what came in: it says more and counts as full. Else prove '..UptoSaid'. A law counts once. -/
mutual
def uptoBulk {H : Type} : DataW H → Nat
  | .lit (.string bytes) => bytes.length + 1
  | .lit _ => 1
  | .nil => 1
  | .ptr d => uptoBulk d + 1
  | .slice elems spare => uptoBulkAll elems + uptoBulkAll spare + 1
  | .agg parts => uptoBulkAll parts + 1
  | .iface _ d => uptoBulk d + 1
  | .map entries => uptoBulkEntries entries + 1
  | .held _ => 1
def uptoBulkAll {H : Type} : List (DataW H) → Nat
  | [] => 0
  | d :: r => uptoBulk d + uptoBulkAll r
def uptoBulkEntries {H : Type} : List (Lit × DataW H) → Nat
  | [] => 0
  | x :: r => uptoBulkEntry x + uptoBulkEntries r
def uptoBulkEntry {H : Type} : Lit × DataW H → Nat
  | (.string bytes, d) => bytes.length + uptoBulk d + 1
  | (_, d) => uptoBulk d + 1
 end
def uptoSmall : (H : Type) → List (DataW H) → Bool := fun _ ds => decide (uptoBulkAll ds ≤ 1048576)
def OpenSpec.upto (s : _root_.Go.ChangeSpec) : _root_.Go.OpenSpec := { _root_.Go.OpenSpec.ofChange s with cond := some uptoSmall }

/-- 'accordionlaw05.B64Puts', WHERE WHAT IT READS IS OF BULK AT MOST 1048576: true; the input reads as it did. -/
def b64PutsUptoRow : OpenClaim := { program := "ytcoboifdmpeelaa", sum := "146b326287beeab504a1332a0ccd4f26837a7110b6beeda4a054d17a22caae5b", func := "accordion/accordionlaw05.B64Puts", spec := "b64Puts", inPlace := ["internal/abi.NoEscape", "internal/bytealg.IndexByteString"], apart := false, narrowed := true }
def B64PutsUptoSaid : Prop := b64PutsUptoRow.holds Try.pinned (OpenSpec.upto b64PutsSpec)

/-- 'accordionlaw05.B64Gets', WHERE WHAT IT READS IS OF BULK AT MOST 1048576: true; the input reads as it did. -/
def b64GetsUptoRow : OpenClaim := { program := "ytcoboifdmpeelaa", sum := "146b326287beeab504a1332a0ccd4f26837a7110b6beeda4a054d17a22caae5b", func := "accordion/accordionlaw05.B64Gets", spec := "b64Gets", inPlace := ["internal/bytealg.IndexByteString", "internal/abi.NoEscape"], apart := false, narrowed := true }
def B64GetsUptoSaid : Prop := b64GetsUptoRow.holds Try.pinned (OpenSpec.upto b64GetsSpec)

/-- 'accordionlaw05.B64Back', WHERE WHAT IT READS IS OF BULK AT MOST 1048576: true; the input reads as it did. -/
def b64BackUptoRow : OpenClaim := { program := "ytcoboifdmpeelaa", sum := "146b326287beeab504a1332a0ccd4f26837a7110b6beeda4a054d17a22caae5b", func := "accordion/accordionlaw05.B64Back", spec := "b64Back", inPlace := ["internal/abi.NoEscape", "internal/bytealg.IndexByteString"], apart := false, narrowed := true }
def B64BackUptoSaid : Prop := b64BackUptoRow.holds Try.pinned (OpenSpec.upto b64BackSpec)

/-- 'accordionlaw05.B64Only', WHERE WHAT IT READS IS OF BULK AT MOST 1048576: true; the input reads as it did. -/
def b64OnlyUptoRow : OpenClaim := { program := "ytcoboifdmpeelaa", sum := "146b326287beeab504a1332a0ccd4f26837a7110b6beeda4a054d17a22caae5b", func := "accordion/accordionlaw05.B64Only", spec := "b64Only", inPlace := ["internal/abi.NoEscape", "internal/bytealg.IndexByteString"], apart := false, narrowed := true }
def B64OnlyUptoSaid : Prop := b64OnlyUptoRow.holds Try.pinned (OpenSpec.upto b64OnlySpec)

/-- 'accordionlaw05.B64Joins', WHERE WHAT IT READS IS OF BULK AT MOST 1048576: true; the input reads as it did. -/
def b64JoinsUptoRow : OpenClaim := { program := "ytcoboifdmpeelaa", sum := "146b326287beeab504a1332a0ccd4f26837a7110b6beeda4a054d17a22caae5b", func := "accordion/accordionlaw05.B64Joins", spec := "b64Joins", inPlace := ["internal/abi.NoEscape", "internal/bytealg.IndexByteString"], apart := false, narrowed := true }
def B64JoinsUptoSaid : Prop := b64JoinsUptoRow.holds Try.pinned (OpenSpec.upto b64JoinsSpec)

/-- 'accordionlaw05.B64Cut', WHERE WHAT IT READS IS OF BULK AT MOST 1048576: true; the input reads as it did. -/
def b64CutUptoRow : OpenClaim := { program := "ytcoboifdmpeelaa", sum := "146b326287beeab504a1332a0ccd4f26837a7110b6beeda4a054d17a22caae5b", func := "accordion/accordionlaw05.B64Cut", spec := "b64Cut", inPlace := ["internal/abi.NoEscape", "internal/bytealg.IndexByteString"], apart := false, narrowed := true }
def B64CutUptoSaid : Prop := b64CutUptoRow.holds Try.pinned (OpenSpec.upto b64CutSpec)

/-- 'accordionlaw05.B64Place', WHERE WHAT IT READS IS OF BULK AT MOST 1048576: true; the input reads as it did. -/
def b64PlaceUptoRow : OpenClaim := { program := "ytcoboifdmpeelaa", sum := "146b326287beeab504a1332a0ccd4f26837a7110b6beeda4a054d17a22caae5b", func := "accordion/accordionlaw05.B64Place", spec := "b64Place", inPlace := ["internal/bytealg.IndexByteString", "internal/abi.NoEscape"], apart := false, narrowed := true }
def B64PlaceUptoSaid : Prop := b64PlaceUptoRow.holds Try.pinned (OpenSpec.upto b64PlaceSpec)

/-- 'accordionlaw05.B64Known', WHERE WHAT IT READS IS OF BULK AT MOST 1048576: true; the input reads as it did. -/
def b64KnownUptoRow : OpenClaim := { program := "ytcoboifdmpeelaa", sum := "146b326287beeab504a1332a0ccd4f26837a7110b6beeda4a054d17a22caae5b", func := "accordion/accordionlaw05.B64Known", spec := "b64Known", inPlace := ["internal/bytealg.IndexByteString", "internal/abi.NoEscape"], apart := false, narrowed := true }
def B64KnownUptoSaid : Prop := b64KnownUptoRow.holds Try.pinned (OpenSpec.upto b64KnownSpec)

end Rows
end Go.Proofs.Ytcoboifdmpeelaa
