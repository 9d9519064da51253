/-
  No cell of these rows narrows 'for every input' (looked for: loops, veiled, ifaces, maps, wideKeys, modest, calm, conditions, laid).
  DERIVED. THE GIVEN ROWS OF THIS SEAT. 5 by the template 'for every input the law returns true; each argument reads behind the call as it read before'; 0 by the template 'total and deterministic' (their statements: YtooahmehpnbfgaaTotals.lean).
  GIVEN WITH THE SEED: the statements are not yours to turn. If you find one false, say at which input.
  Laid BY PROGRAM, IN A SANDBOX (cutbox-rows.mjs): the forced cells as the released guide's own fill.sh prints them over the translation 8692145375b80a47… (all of the seat's roots in one cut). By AI agents, Wed Nov 11 2026. No macro, syntax, notation, axiom, sorry.
-/
import Derived.Test.YtooahmehpnbfgaaChecked
import GoSem.Claim
import GoSem.ClaimJoined
import GoSem.ClaimMapViews
import Derived.JoinedTies
import Derived.KernelRfl
namespace Go.Proofs.Ytooahmehpnbfgaa
/- THE CELL 'sum', in the pinned program and in every row, IS THE sha256 OF THE DUMP (.gsa) THAT YtooahmehpnbfgaaProg.lean LOADS. Nothing in Lean hashes anything: it is a label: what it is worth is what the hold of that sum in a sandbox is worth. -/
noncomputable def Try.pinned : Pinned := { name := "ytooahmehpnbfgaa", sum := "8692145375b80a4745b92aacaf8d29ecfef16972eca94c7eb487202dd9b8dd9f", checked := Try.checked }
namespace Rows
def none {H : Type} : Left H := { results := [], args := [] }

/-- 'pomanderlaw21.ImageBent': WHATEVER THE INPUT: true; the input reads as it did. -/
def imageBentSpec : ChangeSpec := { name := "imageBent", fn := fun _ => fun
  | [d1, d2, d3] => { results := [.lit (.bool true)], args := [d1, d2, d3] }
  | _ => none }
def imageBentRow : OpenClaim := { program := "ytooahmehpnbfgaa", sum := "8692145375b80a4745b92aacaf8d29ecfef16972eca94c7eb487202dd9b8dd9f", func := "pomander/pomanderlaw21.ImageBent", spec := "imageBent", unfollowed := true, recurses := true, apart := false }
def ImageBentSaid : Prop := imageBentRow.holds Try.pinned (OpenSpec.ofChange imageBentSpec)

/-- ITS FALSE NEIGHBOUR: 'it returns false'. Refute it at one input. -/
def imageBentWrong : ChangeSpec := { name := "imageBent", fn := fun _ => fun
  | [d1, d2, d3] => { results := [.lit (.bool false)], args := [d1, d2, d3] }
  | _ => none }
def ImageBentWrongFalsely : Prop := imageBentRow.holds Try.pinned (OpenSpec.ofChange imageBentWrong)

/-- 'pomanderlaw21.ImageJoins': WHATEVER THE INPUT: true; the input reads as it did. -/
def imageJoinsSpec : ChangeSpec := { name := "imageJoins", fn := fun _ => fun
  | [d1, d2] => { results := [.lit (.bool true)], args := [d1, d2] }
  | _ => none }
def imageJoinsRow : OpenClaim := { program := "ytooahmehpnbfgaa", sum := "8692145375b80a4745b92aacaf8d29ecfef16972eca94c7eb487202dd9b8dd9f", func := "pomander/pomanderlaw21.ImageJoins", spec := "imageJoins", unfollowed := true, recurses := true, apart := false }
def ImageJoinsSaid : Prop := imageJoinsRow.holds Try.pinned (OpenSpec.ofChange imageJoinsSpec)

/-- ITS FALSE NEIGHBOUR: 'it returns false'. Refute it at one input. -/
def imageJoinsWrong : ChangeSpec := { name := "imageJoins", fn := fun _ => fun
  | [d1, d2] => { results := [.lit (.bool false)], args := [d1, d2] }
  | _ => none }
def ImageJoinsWrongFalsely : Prop := imageJoinsRow.holds Try.pinned (OpenSpec.ofChange imageJoinsWrong)

/-- 'pomanderlaw21.ImageParts': WHATEVER THE INPUT: true; the input reads as it did. -/
def imagePartsSpec : ChangeSpec := { name := "imageParts", fn := fun _ => fun
  | [d1, d2] => { results := [.lit (.bool true)], args := [d1, d2] }
  | _ => none }
def imagePartsRow : OpenClaim := { program := "ytooahmehpnbfgaa", sum := "8692145375b80a4745b92aacaf8d29ecfef16972eca94c7eb487202dd9b8dd9f", func := "pomander/pomanderlaw21.ImageParts", spec := "imageParts", unfollowed := true, recurses := true, apart := false }
def ImagePartsSaid : Prop := imagePartsRow.holds Try.pinned (OpenSpec.ofChange imagePartsSpec)

/-- ITS FALSE NEIGHBOUR: 'it returns false'. Refute it at one input. -/
def imagePartsWrong : ChangeSpec := { name := "imageParts", fn := fun _ => fun
  | [d1, d2] => { results := [.lit (.bool false)], args := [d1, d2] }
  | _ => none }
def ImagePartsWrongFalsely : Prop := imagePartsRow.holds Try.pinned (OpenSpec.ofChange imagePartsWrong)

/-- 'pomanderlaw21.ImageFlats': WHATEVER THE INPUT: true; the input reads as it did. -/
def imageFlatsSpec : ChangeSpec := { name := "imageFlats", fn := fun _ => fun
  | [d1, d2, d3] => { results := [.lit (.bool true)], args := [d1, d2, d3] }
  | _ => none }
def imageFlatsRow : OpenClaim := { program := "ytooahmehpnbfgaa", sum := "8692145375b80a4745b92aacaf8d29ecfef16972eca94c7eb487202dd9b8dd9f", func := "pomander/pomanderlaw21.ImageFlats", spec := "imageFlats", unfollowed := true, recurses := true, apart := false }
def ImageFlatsSaid : Prop := imageFlatsRow.holds Try.pinned (OpenSpec.ofChange imageFlatsSpec)

/-- ITS FALSE NEIGHBOUR: 'it returns false'. Refute it at one input. -/
def imageFlatsWrong : ChangeSpec := { name := "imageFlats", fn := fun _ => fun
  | [d1, d2, d3] => { results := [.lit (.bool false)], args := [d1, d2, d3] }
  | _ => none }
def ImageFlatsWrongFalsely : Prop := imageFlatsRow.holds Try.pinned (OpenSpec.ofChange imageFlatsWrong)

/-- 'pomanderlaw21.ImageRaws': WHATEVER THE INPUT: true; the input reads as it did. -/
def imageRawsSpec : ChangeSpec := { name := "imageRaws", fn := fun _ => fun
  | [d] => { results := [.lit (.bool true)], args := [d] }
  | _ => none }
def imageRawsRow : OpenClaim := { program := "ytooahmehpnbfgaa", sum := "8692145375b80a4745b92aacaf8d29ecfef16972eca94c7eb487202dd9b8dd9f", func := "pomander/pomanderlaw21.ImageRaws", spec := "imageRaws", unfollowed := true, recurses := true, apart := false }
def ImageRawsSaid : Prop := imageRawsRow.holds Try.pinned (OpenSpec.ofChange imageRawsSpec)

/-- ITS FALSE NEIGHBOUR: 'it returns false'. Refute it at one input. -/
def imageRawsWrong : ChangeSpec := { name := "imageRaws", fn := fun _ => fun
  | [d] => { results := [.lit (.bool false)], args := [d] }
  | _ => none }
def ImageRawsWrongFalsely : Prop := imageRawsRow.holds Try.pinned (OpenSpec.ofChange imageRawsWrong)

/- THE SECOND FORM. 'bulk': how many values and letters a reading holds, each counted each time it is reached (what is shared counts as often as it is met; a slice's spare places count too). A statement '..UptoSaid' is the law's where the arguments, and the package variables that the reading takes, are together of bulk at most 1048576: NARROWER than '..Said'. Prove '..Said' where nothing that the law and all that it calls make is longer than what came in: it says more and counts as full. Else prove '..UptoSaid'. A law counts once. -/
mutual
def uptoBulk {H : Type} : DataW H → Nat
  | .lit (.string bytes) => bytes.length + 1
  | .lit _ => 1
  | .nil => 1
  | .ptr d => uptoBulk d + 1
  | .slice elems spare => uptoBulkAll elems + uptoBulkAll spare + 1
  | .agg parts => uptoBulkAll parts + 1
  | .iface _ d => uptoBulk d + 1
  | .map entries => uptoBulkEntries entries + 1
  | .held _ => 1
def uptoBulkAll {H : Type} : List (DataW H) → Nat
  | [] => 0
  | d :: r => uptoBulk d + uptoBulkAll r
def uptoBulkEntries {H : Type} : List (Lit × DataW H) → Nat
  | [] => 0
  | x :: r => uptoBulkEntry x + uptoBulkEntries r
def uptoBulkEntry {H : Type} : Lit × DataW H → Nat
  | (.string bytes, d) => bytes.length + uptoBulk d + 1
  | (_, d) => uptoBulk d + 1
 end
def uptoSmall : (H : Type) → List (DataW H) → Bool := fun _ ds => decide (uptoBulkAll ds ≤ 1048576)
def OpenSpec.upto (s : _root_.Go.ChangeSpec) : _root_.Go.OpenSpec := { _root_.Go.OpenSpec.ofChange s with cond := some uptoSmall }

/-- 'pomanderlaw21.ImageBent', WHERE WHAT IT READS IS OF BULK AT MOST 1048576: true; the input reads as it did. -/
def imageBentUptoRow : OpenClaim := { program := "ytooahmehpnbfgaa", sum := "8692145375b80a4745b92aacaf8d29ecfef16972eca94c7eb487202dd9b8dd9f", func := "pomander/pomanderlaw21.ImageBent", spec := "imageBent", unfollowed := true, recurses := true, apart := false, narrowed := true }
def ImageBentUptoSaid : Prop := imageBentUptoRow.holds Try.pinned (OpenSpec.upto imageBentSpec)

/-- 'pomanderlaw21.ImageJoins', WHERE WHAT IT READS IS OF BULK AT MOST 1048576: true; the input reads as it did. -/
def imageJoinsUptoRow : OpenClaim := { program := "ytooahmehpnbfgaa", sum := "8692145375b80a4745b92aacaf8d29ecfef16972eca94c7eb487202dd9b8dd9f", func := "pomander/pomanderlaw21.ImageJoins", spec := "imageJoins", unfollowed := true, recurses := true, apart := false, narrowed := true }
def ImageJoinsUptoSaid : Prop := imageJoinsUptoRow.holds Try.pinned (OpenSpec.upto imageJoinsSpec)

/-- 'pomanderlaw21.ImageParts', WHERE WHAT IT READS IS OF BULK AT MOST 1048576: true; the input reads as it did. -/
def imagePartsUptoRow : OpenClaim := { program := "ytooahmehpnbfgaa", sum := "8692145375b80a4745b92aacaf8d29ecfef16972eca94c7eb487202dd9b8dd9f", func := "pomander/pomanderlaw21.ImageParts", spec := "imageParts", unfollowed := true, recurses := true, apart := false, narrowed := true }
def ImagePartsUptoSaid : Prop := imagePartsUptoRow.holds Try.pinned (OpenSpec.upto imagePartsSpec)

/-- 'pomanderlaw21.ImageFlats', WHERE WHAT IT READS IS OF BULK AT MOST 1048576: true; the input reads as it did. -/
def imageFlatsUptoRow : OpenClaim := { program := "ytooahmehpnbfgaa", sum := "8692145375b80a4745b92aacaf8d29ecfef16972eca94c7eb487202dd9b8dd9f", func := "pomander/pomanderlaw21.ImageFlats", spec := "imageFlats", unfollowed := true, recurses := true, apart := false, narrowed := true }
def ImageFlatsUptoSaid : Prop := imageFlatsUptoRow.holds Try.pinned (OpenSpec.upto imageFlatsSpec)

/-- 'pomanderlaw21.ImageRaws', WHERE WHAT IT READS IS OF BULK AT MOST 1048576: true; the input reads as it did. -/
def imageRawsUptoRow : OpenClaim := { program := "ytooahmehpnbfgaa", sum := "8692145375b80a4745b92aacaf8d29ecfef16972eca94c7eb487202dd9b8dd9f", func := "pomander/pomanderlaw21.ImageRaws", spec := "imageRaws", unfollowed := true, recurses := true, apart := false, narrowed := true }
def ImageRawsUptoSaid : Prop := imageRawsUptoRow.holds Try.pinned (OpenSpec.upto imageRawsSpec)

end Rows
end Go.Proofs.Ytooahmehpnbfgaa
