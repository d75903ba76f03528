/-
  No cell of these rows narrows 'for every input' (looked for: loops, veiled, ifaces, maps, wideKeys, modest, calm, conditions, laid).
  DERIVED. THE GIVEN ROWS OF THIS SEAT. 5 by the template 'for every input the law returns true; each argument reads behind the call as it read before'; 0 by the template 'total and deterministic' (their statements: YtdafdodjeffaiaaTotals.lean).
  GIVEN WITH THE SEED: the statements are not yours to turn. If you find one false, say at which input.
  Laid BY PROGRAM, IN A SANDBOX (cutbox-rows.mjs): the forced cells as the released guide's own fill.sh prints them over the translation 0b9d5a9fc1edba7a… (all of the seat's roots in one cut). By AI agents, Wed Nov 11 2026. No macro, syntax, notation, axiom, sorry.
-/
import Derived.Test.YtdafdodjeffaiaaChecked
import GoSem.Claim
import GoSem.ClaimJoined
import GoSem.ClaimMapViews
import Derived.JoinedTies
import Derived.KernelRfl
namespace Go.Proofs.Ytdafdodjeffaiaa
/- THE CELL 'sum', in the pinned program and in every row, IS THE sha256 OF THE DUMP (.gsa) THAT YtdafdodjeffaiaaProg.lean LOADS. Nothing in Lean hashes anything: it is a label: what it is worth is what the hold of that sum in a sandbox is worth. -/
noncomputable def Try.pinned : Pinned := { name := "ytdafdodjeffaiaa", sum := "0b9d5a9fc1edba7acc7c17349847be922592b2600e7cdcf826ed47835c1100a0", checked := Try.checked }
namespace Rows
def none {H : Type} : Left H := { results := [], args := [] }

/-- 'limekilnlaw01.BitsMade': WHATEVER THE INPUT: true; the input reads as it did. -/
def bitsMadeSpec : ChangeSpec := { name := "bitsMade", fn := fun _ => fun
  | [d1, d2, d3] => { results := [.lit (.bool true)], args := [d1, d2, d3] }
  | _ => none }
def bitsMadeRow : OpenClaim := { program := "ytdafdodjeffaiaa", sum := "0b9d5a9fc1edba7acc7c17349847be922592b2600e7cdcf826ed47835c1100a0", func := "limekiln/limekilnlaw01.BitsMade", spec := "bitsMade", unfollowed := true, recurses := true, apart := false }
def BitsMadeSaid : Prop := bitsMadeRow.holds Try.pinned (OpenSpec.ofChange bitsMadeSpec)

/-- ITS FALSE NEIGHBOUR: 'it returns false'. Refute it at one input. -/
def bitsMadeWrong : ChangeSpec := { name := "bitsMade", fn := fun _ => fun
  | [d1, d2, d3] => { results := [.lit (.bool false)], args := [d1, d2, d3] }
  | _ => none }
def BitsMadeWrongFalsely : Prop := bitsMadeRow.holds Try.pinned (OpenSpec.ofChange bitsMadeWrong)

/-- 'limekilnlaw01.BitsLinks': WHATEVER THE INPUT: true; the input reads as it did. -/
def bitsLinksSpec : ChangeSpec := { name := "bitsLinks", fn := fun _ => fun
  | [d1, d2, d3] => { results := [.lit (.bool true)], args := [d1, d2, d3] }
  | _ => none }
def bitsLinksRow : OpenClaim := { program := "ytdafdodjeffaiaa", sum := "0b9d5a9fc1edba7acc7c17349847be922592b2600e7cdcf826ed47835c1100a0", func := "limekiln/limekilnlaw01.BitsLinks", spec := "bitsLinks", unfollowed := true, recurses := true, apart := false }
def BitsLinksSaid : Prop := bitsLinksRow.holds Try.pinned (OpenSpec.ofChange bitsLinksSpec)

/-- ITS FALSE NEIGHBOUR: 'it returns false'. Refute it at one input. -/
def bitsLinksWrong : ChangeSpec := { name := "bitsLinks", fn := fun _ => fun
  | [d1, d2, d3] => { results := [.lit (.bool false)], args := [d1, d2, d3] }
  | _ => none }
def BitsLinksWrongFalsely : Prop := bitsLinksRow.holds Try.pinned (OpenSpec.ofChange bitsLinksWrong)

/-- 'limekilnlaw01.BitsDirty': WHATEVER THE INPUT: true; the input reads as it did. -/
def bitsDirtySpec : ChangeSpec := { name := "bitsDirty", fn := fun _ => fun
  | [d1, d2, d3] => { results := [.lit (.bool true)], args := [d1, d2, d3] }
  | _ => none }
def bitsDirtyRow : OpenClaim := { program := "ytdafdodjeffaiaa", sum := "0b9d5a9fc1edba7acc7c17349847be922592b2600e7cdcf826ed47835c1100a0", func := "limekiln/limekilnlaw01.BitsDirty", spec := "bitsDirty", unfollowed := true, recurses := true, apart := false }
def BitsDirtySaid : Prop := bitsDirtyRow.holds Try.pinned (OpenSpec.ofChange bitsDirtySpec)

/-- ITS FALSE NEIGHBOUR: 'it returns false'. Refute it at one input. -/
def bitsDirtyWrong : ChangeSpec := { name := "bitsDirty", fn := fun _ => fun
  | [d1, d2, d3] => { results := [.lit (.bool false)], args := [d1, d2, d3] }
  | _ => none }
def BitsDirtyWrongFalsely : Prop := bitsDirtyRow.holds Try.pinned (OpenSpec.ofChange bitsDirtyWrong)

/-- 'limekilnlaw01.BitsOthers': WHATEVER THE INPUT: true; the input reads as it did. -/
def bitsOthersSpec : ChangeSpec := { name := "bitsOthers", fn := fun _ => fun
  | [d] => { results := [.lit (.bool true)], args := [d] }
  | _ => none }
def bitsOthersRow : OpenClaim := { program := "ytdafdodjeffaiaa", sum := "0b9d5a9fc1edba7acc7c17349847be922592b2600e7cdcf826ed47835c1100a0", func := "limekiln/limekilnlaw01.BitsOthers", spec := "bitsOthers", unfollowed := true, recurses := true, apart := false }
def BitsOthersSaid : Prop := bitsOthersRow.holds Try.pinned (OpenSpec.ofChange bitsOthersSpec)

/-- ITS FALSE NEIGHBOUR: 'it returns false'. Refute it at one input. -/
def bitsOthersWrong : ChangeSpec := { name := "bitsOthers", fn := fun _ => fun
  | [d] => { results := [.lit (.bool false)], args := [d] }
  | _ => none }
def BitsOthersWrongFalsely : Prop := bitsOthersRow.holds Try.pinned (OpenSpec.ofChange bitsOthersWrong)

/-- 'limekilnlaw01.BitsBack': WHATEVER THE INPUT: true; the input reads as it did. -/
def bitsBackSpec : ChangeSpec := { name := "bitsBack", fn := fun _ => fun
  | [d1, d2, d3] => { results := [.lit (.bool true)], args := [d1, d2, d3] }
  | _ => none }
def bitsBackRow : OpenClaim := { program := "ytdafdodjeffaiaa", sum := "0b9d5a9fc1edba7acc7c17349847be922592b2600e7cdcf826ed47835c1100a0", func := "limekiln/limekilnlaw01.BitsBack", spec := "bitsBack", unfollowed := true, recurses := true, apart := false }
def BitsBackSaid : Prop := bitsBackRow.holds Try.pinned (OpenSpec.ofChange bitsBackSpec)

/-- ITS FALSE NEIGHBOUR: 'it returns false'. Refute it at one input. -/
def bitsBackWrong : ChangeSpec := { name := "bitsBack", fn := fun _ => fun
  | [d1, d2, d3] => { results := [.lit (.bool false)], args := [d1, d2, d3] }
  | _ => none }
def BitsBackWrongFalsely : Prop := bitsBackRow.holds Try.pinned (OpenSpec.ofChange bitsBackWrong)

/- THE SECOND FORM. 'bulk': how many values and letters a reading holds, each counted each time it is reached (what is shared counts as often as it is met; a slice's spare places count too). A statement '..UptoSaid' is the law's where the arguments, and the package variables that the reading takes, are together of bulk at most 1048576: NARROWER than '..Said'. Prove '..Said' where nothing that the law and all that it calls make is longer than what came in: it says more and counts as full. Else prove '..UptoSaid'. A law counts once. -/
mutual
def uptoBulk {H : Type} : DataW H → Nat
  | .lit (.string bytes) => bytes.length + 1
  | .lit _ => 1
  | .nil => 1
  | .ptr d => uptoBulk d + 1
  | .slice elems spare => uptoBulkAll elems + uptoBulkAll spare + 1
  | .agg parts => uptoBulkAll parts + 1
  | .iface _ d => uptoBulk d + 1
  | .map entries => uptoBulkEntries entries + 1
  | .held _ => 1
def uptoBulkAll {H : Type} : List (DataW H) → Nat
  | [] => 0
  | d :: r => uptoBulk d + uptoBulkAll r
def uptoBulkEntries {H : Type} : List (Lit × DataW H) → Nat
  | [] => 0
  | x :: r => uptoBulkEntry x + uptoBulkEntries r
def uptoBulkEntry {H : Type} : Lit × DataW H → Nat
  | (.string bytes, d) => bytes.length + uptoBulk d + 1
  | (_, d) => uptoBulk d + 1
 end
def uptoSmall : (H : Type) → List (DataW H) → Bool := fun _ ds => decide (uptoBulkAll ds ≤ 1048576)
def OpenSpec.upto (s : _root_.Go.ChangeSpec) : _root_.Go.OpenSpec := { _root_.Go.OpenSpec.ofChange s with cond := some uptoSmall }

/-- 'limekilnlaw01.BitsMade', WHERE WHAT IT READS IS OF BULK AT MOST 1048576: true; the input reads as it did. -/
def bitsMadeUptoRow : OpenClaim := { program := "ytdafdodjeffaiaa", sum := "0b9d5a9fc1edba7acc7c17349847be922592b2600e7cdcf826ed47835c1100a0", func := "limekiln/limekilnlaw01.BitsMade", spec := "bitsMade", unfollowed := true, recurses := true, apart := false, narrowed := true }
def BitsMadeUptoSaid : Prop := bitsMadeUptoRow.holds Try.pinned (OpenSpec.upto bitsMadeSpec)

/-- 'limekilnlaw01.BitsLinks', WHERE WHAT IT READS IS OF BULK AT MOST 1048576: true; the input reads as it did. -/
def bitsLinksUptoRow : OpenClaim := { program := "ytdafdodjeffaiaa", sum := "0b9d5a9fc1edba7acc7c17349847be922592b2600e7cdcf826ed47835c1100a0", func := "limekiln/limekilnlaw01.BitsLinks", spec := "bitsLinks", unfollowed := true, recurses := true, apart := false, narrowed := true }
def BitsLinksUptoSaid : Prop := bitsLinksUptoRow.holds Try.pinned (OpenSpec.upto bitsLinksSpec)

/-- 'limekilnlaw01.BitsDirty', WHERE WHAT IT READS IS OF BULK AT MOST 1048576: true; the input reads as it did. -/
def bitsDirtyUptoRow : OpenClaim := { program := "ytdafdodjeffaiaa", sum := "0b9d5a9fc1edba7acc7c17349847be922592b2600e7cdcf826ed47835c1100a0", func := "limekiln/limekilnlaw01.BitsDirty", spec := "bitsDirty", unfollowed := true, recurses := true, apart := false, narrowed := true }
def BitsDirtyUptoSaid : Prop := bitsDirtyUptoRow.holds Try.pinned (OpenSpec.upto bitsDirtySpec)

/-- 'limekilnlaw01.BitsOthers', WHERE WHAT IT READS IS OF BULK AT MOST 1048576: true; the input reads as it did. -/
def bitsOthersUptoRow : OpenClaim := { program := "ytdafdodjeffaiaa", sum := "0b9d5a9fc1edba7acc7c17349847be922592b2600e7cdcf826ed47835c1100a0", func := "limekiln/limekilnlaw01.BitsOthers", spec := "bitsOthers", unfollowed := true, recurses := true, apart := false, narrowed := true }
def BitsOthersUptoSaid : Prop := bitsOthersUptoRow.holds Try.pinned (OpenSpec.upto bitsOthersSpec)

/-- 'limekilnlaw01.BitsBack', WHERE WHAT IT READS IS OF BULK AT MOST 1048576: true; the input reads as it did. -/
def bitsBackUptoRow : OpenClaim := { program := "ytdafdodjeffaiaa", sum := "0b9d5a9fc1edba7acc7c17349847be922592b2600e7cdcf826ed47835c1100a0", func := "limekiln/limekilnlaw01.BitsBack", spec := "bitsBack", unfollowed := true, recurses := true, apart := false, narrowed := true }
def BitsBackUptoSaid : Prop := bitsBackUptoRow.holds Try.pinned (OpenSpec.upto bitsBackSpec)

end Rows
end Go.Proofs.Ytdafdodjeffaiaa
