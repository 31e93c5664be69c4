/-
  No cell of these rows narrows 'for every input' (looked for: loops, veiled, ifaces, maps, wideKeys, modest, calm, conditions, laid).
  DERIVED. THE GIVEN ROWS OF THIS SEAT. 7 by the template 'for every input the law returns true; each argument reads behind the call as it read before'; 0 by the template 'total and deterministic' (their statements: YtiagpjjjggldeaaTotals.lean).
  GIVEN WITH THE SEED: the statements are not yours to turn. If you find one false, say at which input.
  Laid BY PROGRAM, IN A SANDBOX (cutbox-rows.mjs): the forced cells as the released guide's own fill.sh prints them over the translation 70bbc12d22f0f7e3… (all of the seat's roots in one cut). By AI agents, Wed Nov 11 2026. No macro, syntax, notation, axiom, sorry.
-/
import Derived.Test.YtiagpjjjggldeaaChecked
import GoSem.Claim
import GoSem.ClaimJoined
import GoSem.ClaimMapViews
import Derived.JoinedTies
import Derived.KernelRfl
namespace Go.Proofs.Ytiagpjjjggldeaa
/- THE CELL 'sum', in the pinned program and in every row, IS THE sha256 OF THE DUMP (.gsa) THAT YtiagpjjjggldeaaProg.lean LOADS. Nothing in Lean hashes anything: it is a label: what it is worth is what the hold of that sum in a sandbox is worth. -/
noncomputable def Try.pinned : Pinned := { name := "ytiagpjjjggldeaa", sum := "70bbc12d22f0f7e3177b840d7709fe76e782dca614f1b7e9c046f9817d844948", checked := Try.checked }
namespace Rows
def none {H : Type} : Left H := { results := [], args := [] }

/-- 'accordionlaw02.TagPacks': WHATEVER THE INPUT: true; the input reads as it did. -/
def tagPacksSpec : ChangeSpec := { name := "tagPacks", fn := fun _ => fun
  | [d1, d2, d3] => { results := [.lit (.bool true)], args := [d1, d2, d3] }
  | _ => none }
def tagPacksRow : OpenClaim := { program := "ytiagpjjjggldeaa", sum := "70bbc12d22f0f7e3177b840d7709fe76e782dca614f1b7e9c046f9817d844948", func := "accordion/accordionlaw02.TagPacks", spec := "tagPacks", plainKeys := false, apart := false }
def TagPacksSaid : Prop := tagPacksRow.holds Try.pinned (OpenSpec.ofChange tagPacksSpec)

/-- ITS FALSE NEIGHBOUR: 'it returns false'. Refute it at one input. -/
def tagPacksWrong : ChangeSpec := { name := "tagPacks", fn := fun _ => fun
  | [d1, d2, d3] => { results := [.lit (.bool false)], args := [d1, d2, d3] }
  | _ => none }
def TagPacksWrongFalsely : Prop := tagPacksRow.holds Try.pinned (OpenSpec.ofChange tagPacksWrong)

/-- 'accordionlaw02.TagTells': WHATEVER THE INPUT: true; the input reads as it did. -/
def tagTellsSpec : ChangeSpec := { name := "tagTells", fn := fun _ => fun
  | [d1, d2] => { results := [.lit (.bool true)], args := [d1, d2] }
  | _ => none }
def tagTellsRow : OpenClaim := { program := "ytiagpjjjggldeaa", sum := "70bbc12d22f0f7e3177b840d7709fe76e782dca614f1b7e9c046f9817d844948", func := "accordion/accordionlaw02.TagTells", spec := "tagTells", plainKeys := false, apart := false }
def TagTellsSaid : Prop := tagTellsRow.holds Try.pinned (OpenSpec.ofChange tagTellsSpec)

/-- ITS FALSE NEIGHBOUR: 'it returns false'. Refute it at one input. -/
def tagTellsWrong : ChangeSpec := { name := "tagTells", fn := fun _ => fun
  | [d1, d2] => { results := [.lit (.bool false)], args := [d1, d2] }
  | _ => none }
def TagTellsWrongFalsely : Prop := tagTellsRow.holds Try.pinned (OpenSpec.ofChange tagTellsWrong)

/-- 'accordionlaw02.TagBack': WHATEVER THE INPUT: true; the input reads as it did. -/
def tagBackSpec : ChangeSpec := { name := "tagBack", fn := fun _ => fun
  | [d1, d2] => { results := [.lit (.bool true)], args := [d1, d2] }
  | _ => none }
def tagBackRow : OpenClaim := { program := "ytiagpjjjggldeaa", sum := "70bbc12d22f0f7e3177b840d7709fe76e782dca614f1b7e9c046f9817d844948", func := "accordion/accordionlaw02.TagBack", spec := "tagBack", plainKeys := false, apart := false }
def TagBackSaid : Prop := tagBackRow.holds Try.pinned (OpenSpec.ofChange tagBackSpec)

/-- ITS FALSE NEIGHBOUR: 'it returns false'. Refute it at one input. -/
def tagBackWrong : ChangeSpec := { name := "tagBack", fn := fun _ => fun
  | [d1, d2] => { results := [.lit (.bool false)], args := [d1, d2] }
  | _ => none }
def TagBackWrongFalsely : Prop := tagBackRow.holds Try.pinned (OpenSpec.ofChange tagBackWrong)

/-- 'accordionlaw02.TagOnly': WHATEVER THE INPUT: true; the input reads as it did. -/
def tagOnlySpec : ChangeSpec := { name := "tagOnly", fn := fun _ => fun
  | [d] => { results := [.lit (.bool true)], args := [d] }
  | _ => none }
def tagOnlyRow : OpenClaim := { program := "ytiagpjjjggldeaa", sum := "70bbc12d22f0f7e3177b840d7709fe76e782dca614f1b7e9c046f9817d844948", func := "accordion/accordionlaw02.TagOnly", spec := "tagOnly", plainKeys := false, apart := false }
def TagOnlySaid : Prop := tagOnlyRow.holds Try.pinned (OpenSpec.ofChange tagOnlySpec)

/-- ITS FALSE NEIGHBOUR: 'it returns false'. Refute it at one input. -/
def tagOnlyWrong : ChangeSpec := { name := "tagOnly", fn := fun _ => fun
  | [d] => { results := [.lit (.bool false)], args := [d] }
  | _ => none }
def TagOnlyWrongFalsely : Prop := tagOnlyRow.holds Try.pinned (OpenSpec.ofChange tagOnlyWrong)

/-- 'accordionlaw02.TagVectors': WHATEVER THE INPUT: true; the input reads as it did. -/
def tagVectorsSpec : ChangeSpec := { name := "tagVectors", fn := fun _ => fun
  | [d1, d2] => { results := [.lit (.bool true)], args := [d1, d2] }
  | _ => none }
def tagVectorsRow : OpenClaim := { program := "ytiagpjjjggldeaa", sum := "70bbc12d22f0f7e3177b840d7709fe76e782dca614f1b7e9c046f9817d844948", func := "accordion/accordionlaw02.TagVectors", spec := "tagVectors", plainKeys := false, apart := false }
def TagVectorsSaid : Prop := tagVectorsRow.holds Try.pinned (OpenSpec.ofChange tagVectorsSpec)

/-- ITS FALSE NEIGHBOUR: 'it returns false'. Refute it at one input. -/
def tagVectorsWrong : ChangeSpec := { name := "tagVectors", fn := fun _ => fun
  | [d1, d2] => { results := [.lit (.bool false)], args := [d1, d2] }
  | _ => none }
def TagVectorsWrongFalsely : Prop := tagVectorsRow.holds Try.pinned (OpenSpec.ofChange tagVectorsWrong)

/-- 'accordionlaw02.TagApart': WHATEVER THE INPUT: true; the input reads as it did. -/
def tagApartSpec : ChangeSpec := { name := "tagApart", fn := fun _ => fun
  | [d1, d2] => { results := [.lit (.bool true)], args := [d1, d2] }
  | _ => none }
def tagApartRow : OpenClaim := { program := "ytiagpjjjggldeaa", sum := "70bbc12d22f0f7e3177b840d7709fe76e782dca614f1b7e9c046f9817d844948", func := "accordion/accordionlaw02.TagApart", spec := "tagApart", plainKeys := false, apart := false }
def TagApartSaid : Prop := tagApartRow.holds Try.pinned (OpenSpec.ofChange tagApartSpec)

/-- ITS FALSE NEIGHBOUR: 'it returns false'. Refute it at one input. -/
def tagApartWrong : ChangeSpec := { name := "tagApart", fn := fun _ => fun
  | [d1, d2] => { results := [.lit (.bool false)], args := [d1, d2] }
  | _ => none }
def TagApartWrongFalsely : Prop := tagApartRow.holds Try.pinned (OpenSpec.ofChange tagApartWrong)

/-- 'accordionlaw02.TagKnown': WHATEVER THE INPUT: true; the input reads as it did. -/
def tagKnownSpec : ChangeSpec := { name := "tagKnown", fn := fun _ => fun
  | [] => { results := [.lit (.bool true)], args := [] }
  | _ => none }
def tagKnownRow : OpenClaim := { program := "ytiagpjjjggldeaa", sum := "70bbc12d22f0f7e3177b840d7709fe76e782dca614f1b7e9c046f9817d844948", func := "accordion/accordionlaw02.TagKnown", spec := "tagKnown", plainKeys := false, apart := false }
def TagKnownSaid : Prop := tagKnownRow.holds Try.pinned (OpenSpec.ofChange tagKnownSpec)

/-- ITS FALSE NEIGHBOUR: 'it returns false'. Refute it at one input. -/
def tagKnownWrong : ChangeSpec := { name := "tagKnown", fn := fun _ => fun
  | [] => { results := [.lit (.bool false)], args := [] }
  | _ => none }
def TagKnownWrongFalsely : Prop := tagKnownRow.holds Try.pinned (OpenSpec.ofChange tagKnownWrong)

/- THE SECOND FORM. 'bulk': how many values and letters a reading holds, each counted each time it is reached (what is shared counts as often as it is met; a slice's spare places count too). A statement '..UptoSaid' is the law's where the arguments, and the package variables that the reading takes, are together of bulk at most 1048576: NARROWER than '..Said'. Prove '..Said' where nothing that the law and all that it calls make is longer than what came in: it says more and counts as full. Else prove '..UptoSaid'. A law counts once. -/
mutual
def uptoBulk {H : Type} : DataW H → Nat
  | .lit (.string bytes) => bytes.length + 1
  | .lit _ => 1
  | .nil => 1
  | .ptr d => uptoBulk d + 1
  | .slice elems spare => uptoBulkAll elems + uptoBulkAll spare + 1
  | .agg parts => uptoBulkAll parts + 1
  | .iface _ d => uptoBulk d + 1
  | .map entries => uptoBulkEntries entries + 1
  | .held _ => 1
def uptoBulkAll {H : Type} : List (DataW H) → Nat
  | [] => 0
  | d :: r => uptoBulk d + uptoBulkAll r
def uptoBulkEntries {H : Type} : List (Lit × DataW H) → Nat
  | [] => 0
  | x :: r => uptoBulkEntry x + uptoBulkEntries r
def uptoBulkEntry {H : Type} : Lit × DataW H → Nat
  | (.string bytes, d) => bytes.length + uptoBulk d + 1
  | (_, d) => uptoBulk d + 1
 end
def uptoSmall : (H : Type) → List (DataW H) → Bool := fun _ ds => decide (uptoBulkAll ds ≤ 1048576)
def OpenSpec.upto (s : _root_.Go.ChangeSpec) : _root_.Go.OpenSpec := { _root_.Go.OpenSpec.ofChange s with cond := some uptoSmall }

/-- 'accordionlaw02.TagPacks', WHERE WHAT IT READS IS OF BULK AT MOST 1048576: true; the input reads as it did. -/
def tagPacksUptoRow : OpenClaim := { program := "ytiagpjjjggldeaa", sum := "70bbc12d22f0f7e3177b840d7709fe76e782dca614f1b7e9c046f9817d844948", func := "accordion/accordionlaw02.TagPacks", spec := "tagPacks", plainKeys := false, apart := false, narrowed := true }
def TagPacksUptoSaid : Prop := tagPacksUptoRow.holds Try.pinned (OpenSpec.upto tagPacksSpec)

/-- 'accordionlaw02.TagTells', WHERE WHAT IT READS IS OF BULK AT MOST 1048576: true; the input reads as it did. -/
def tagTellsUptoRow : OpenClaim := { program := "ytiagpjjjggldeaa", sum := "70bbc12d22f0f7e3177b840d7709fe76e782dca614f1b7e9c046f9817d844948", func := "accordion/accordionlaw02.TagTells", spec := "tagTells", plainKeys := false, apart := false, narrowed := true }
def TagTellsUptoSaid : Prop := tagTellsUptoRow.holds Try.pinned (OpenSpec.upto tagTellsSpec)

/-- 'accordionlaw02.TagBack', WHERE WHAT IT READS IS OF BULK AT MOST 1048576: true; the input reads as it did. -/
def tagBackUptoRow : OpenClaim := { program := "ytiagpjjjggldeaa", sum := "70bbc12d22f0f7e3177b840d7709fe76e782dca614f1b7e9c046f9817d844948", func := "accordion/accordionlaw02.TagBack", spec := "tagBack", plainKeys := false, apart := false, narrowed := true }
def TagBackUptoSaid : Prop := tagBackUptoRow.holds Try.pinned (OpenSpec.upto tagBackSpec)

/-- 'accordionlaw02.TagOnly', WHERE WHAT IT READS IS OF BULK AT MOST 1048576: true; the input reads as it did. -/
def tagOnlyUptoRow : OpenClaim := { program := "ytiagpjjjggldeaa", sum := "70bbc12d22f0f7e3177b840d7709fe76e782dca614f1b7e9c046f9817d844948", func := "accordion/accordionlaw02.TagOnly", spec := "tagOnly", plainKeys := false, apart := false, narrowed := true }
def TagOnlyUptoSaid : Prop := tagOnlyUptoRow.holds Try.pinned (OpenSpec.upto tagOnlySpec)

/-- 'accordionlaw02.TagVectors', WHERE WHAT IT READS IS OF BULK AT MOST 1048576: true; the input reads as it did. -/
def tagVectorsUptoRow : OpenClaim := { program := "ytiagpjjjggldeaa", sum := "70bbc12d22f0f7e3177b840d7709fe76e782dca614f1b7e9c046f9817d844948", func := "accordion/accordionlaw02.TagVectors", spec := "tagVectors", plainKeys := false, apart := false, narrowed := true }
def TagVectorsUptoSaid : Prop := tagVectorsUptoRow.holds Try.pinned (OpenSpec.upto tagVectorsSpec)

/-- 'accordionlaw02.TagApart', WHERE WHAT IT READS IS OF BULK AT MOST 1048576: true; the input reads as it did. -/
def tagApartUptoRow : OpenClaim := { program := "ytiagpjjjggldeaa", sum := "70bbc12d22f0f7e3177b840d7709fe76e782dca614f1b7e9c046f9817d844948", func := "accordion/accordionlaw02.TagApart", spec := "tagApart", plainKeys := false, apart := false, narrowed := true }
def TagApartUptoSaid : Prop := tagApartUptoRow.holds Try.pinned (OpenSpec.upto tagApartSpec)

/-- 'accordionlaw02.TagKnown', WHERE WHAT IT READS IS OF BULK AT MOST 1048576: true; the input reads as it did. -/
def tagKnownUptoRow : OpenClaim := { program := "ytiagpjjjggldeaa", sum := "70bbc12d22f0f7e3177b840d7709fe76e782dca614f1b7e9c046f9817d844948", func := "accordion/accordionlaw02.TagKnown", spec := "tagKnown", plainKeys := false, apart := false, narrowed := true }
def TagKnownUptoSaid : Prop := tagKnownUptoRow.holds Try.pinned (OpenSpec.upto tagKnownSpec)

end Rows
end Go.Proofs.Ytiagpjjjggldeaa
