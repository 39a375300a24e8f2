/-
  No cell of these rows narrows 'for every input' (looked for: loops, veiled, ifaces, maps, wideKeys, modest, calm, conditions, laid).
  DERIVED. THE GIVEN ROWS OF THIS SEAT. 7 by the template 'for every input the law returns true; each argument reads behind the call as it read before'; 0 by the template 'total and deterministic' (their statements: YtfmdghijbkddpaaTotals.lean).
  GIVEN WITH THE SEED: the statements are not yours to turn. If you find one false, say at which input.
  Laid BY PROGRAM, IN A SANDBOX (cutbox-rows.mjs): the forced cells as the released guide's own fill.sh prints them over the translation 6b67073df4ccab2a… (all of the seat's roots in one cut). By AI agents, Wed Nov 11 2026. No macro, syntax, notation, axiom, sorry.
-/
import Derived.Test.YtfmdghijbkddpaaChecked
import GoSem.Claim
import GoSem.ClaimJoined
import GoSem.ClaimMapViews
import Derived.JoinedTies
import Derived.KernelRfl
namespace Go.Proofs.Ytfmdghijbkddpaa
/- THE CELL 'sum', in the pinned program and in every row, IS THE sha256 OF THE DUMP (.gsa) THAT YtfmdghijbkddpaaProg.lean LOADS. Nothing in Lean hashes anything: it is a label: what it is worth is what the hold of that sum in a sandbox is worth. -/
noncomputable def Try.pinned : Pinned := { name := "ytfmdghijbkddpaa", sum := "6b67073df4ccab2af8698b6567e92caed7612776ce6da5fd22d3c0b227929ebd", checked := Try.checked }
namespace Rows
def none {H : Type} : Left H := { results := [], args := [] }

/-- 'massiflaw13.LoomTops': WHATEVER THE INPUT: true; the input reads as it did. -/
def loomTopsSpec : ChangeSpec := { name := "loomTops", fn := fun _ => fun
  | [d1, d2, d3] => { results := [.lit (.bool true)], args := [d1, d2, d3] }
  | _ => none }
def loomTopsRow : OpenClaim := { program := "ytfmdghijbkddpaa", sum := "6b67073df4ccab2af8698b6567e92caed7612776ce6da5fd22d3c0b227929ebd", func := "massif/massiflaw13.LoomTops", spec := "loomTops", unfollowed := true, recurses := true, apart := false }
def LoomTopsSaid : Prop := loomTopsRow.holds Try.pinned (OpenSpec.ofChange loomTopsSpec)

/-- ITS FALSE NEIGHBOUR: 'it returns false'. Refute it at one input. -/
def loomTopsWrong : ChangeSpec := { name := "loomTops", fn := fun _ => fun
  | [d1, d2, d3] => { results := [.lit (.bool false)], args := [d1, d2, d3] }
  | _ => none }
def LoomTopsWrongFalsely : Prop := loomTopsRow.holds Try.pinned (OpenSpec.ofChange loomTopsWrong)

/-- 'massiflaw13.LoomShuts': WHATEVER THE INPUT: true; the input reads as it did. -/
def loomShutsSpec : ChangeSpec := { name := "loomShuts", fn := fun _ => fun
  | [d1, d2, d3, d4, d5] => { results := [.lit (.bool true)], args := [d1, d2, d3, d4, d5] }
  | _ => none }
def loomShutsRow : OpenClaim := { program := "ytfmdghijbkddpaa", sum := "6b67073df4ccab2af8698b6567e92caed7612776ce6da5fd22d3c0b227929ebd", func := "massif/massiflaw13.LoomShuts", spec := "loomShuts", unfollowed := true, recurses := true, apart := false }
def LoomShutsSaid : Prop := loomShutsRow.holds Try.pinned (OpenSpec.ofChange loomShutsSpec)

/-- ITS FALSE NEIGHBOUR: 'it returns false'. Refute it at one input. -/
def loomShutsWrong : ChangeSpec := { name := "loomShuts", fn := fun _ => fun
  | [d1, d2, d3, d4, d5] => { results := [.lit (.bool false)], args := [d1, d2, d3, d4, d5] }
  | _ => none }
def LoomShutsWrongFalsely : Prop := loomShutsRow.holds Try.pinned (OpenSpec.ofChange loomShutsWrong)

/-- 'massiflaw13.LoomApart': WHATEVER THE INPUT: true; the input reads as it did. -/
def loomApartSpec : ChangeSpec := { name := "loomApart", fn := fun _ => fun
  | [d1, d2, d3, d4, d5] => { results := [.lit (.bool true)], args := [d1, d2, d3, d4, d5] }
  | _ => none }
def loomApartRow : OpenClaim := { program := "ytfmdghijbkddpaa", sum := "6b67073df4ccab2af8698b6567e92caed7612776ce6da5fd22d3c0b227929ebd", func := "massif/massiflaw13.LoomApart", spec := "loomApart", unfollowed := true, recurses := true, apart := false }
def LoomApartSaid : Prop := loomApartRow.holds Try.pinned (OpenSpec.ofChange loomApartSpec)

/-- ITS FALSE NEIGHBOUR: 'it returns false'. Refute it at one input. -/
def loomApartWrong : ChangeSpec := { name := "loomApart", fn := fun _ => fun
  | [d1, d2, d3, d4, d5] => { results := [.lit (.bool false)], args := [d1, d2, d3, d4, d5] }
  | _ => none }
def LoomApartWrongFalsely : Prop := loomApartRow.holds Try.pinned (OpenSpec.ofChange loomApartWrong)

/-- 'massiflaw13.LoomChoice': WHATEVER THE INPUT: true; the input reads as it did. -/
def loomChoiceSpec : ChangeSpec := { name := "loomChoice", fn := fun _ => fun
  | [d1, d2, d3] => { results := [.lit (.bool true)], args := [d1, d2, d3] }
  | _ => none }
def loomChoiceRow : OpenClaim := { program := "ytfmdghijbkddpaa", sum := "6b67073df4ccab2af8698b6567e92caed7612776ce6da5fd22d3c0b227929ebd", func := "massif/massiflaw13.LoomChoice", spec := "loomChoice", unfollowed := true, recurses := true, apart := false }
def LoomChoiceSaid : Prop := loomChoiceRow.holds Try.pinned (OpenSpec.ofChange loomChoiceSpec)

/-- ITS FALSE NEIGHBOUR: 'it returns false'. Refute it at one input. -/
def loomChoiceWrong : ChangeSpec := { name := "loomChoice", fn := fun _ => fun
  | [d1, d2, d3] => { results := [.lit (.bool false)], args := [d1, d2, d3] }
  | _ => none }
def LoomChoiceWrongFalsely : Prop := loomChoiceRow.holds Try.pinned (OpenSpec.ofChange loomChoiceWrong)

/-- 'massiflaw13.LoomMoves': WHATEVER THE INPUT: true; the input reads as it did. -/
def loomMovesSpec : ChangeSpec := { name := "loomMoves", fn := fun _ => fun
  | [d1, d2, d3, d4] => { results := [.lit (.bool true)], args := [d1, d2, d3, d4] }
  | _ => none }
def loomMovesRow : OpenClaim := { program := "ytfmdghijbkddpaa", sum := "6b67073df4ccab2af8698b6567e92caed7612776ce6da5fd22d3c0b227929ebd", func := "massif/massiflaw13.LoomMoves", spec := "loomMoves", unfollowed := true, recurses := true, apart := false }
def LoomMovesSaid : Prop := loomMovesRow.holds Try.pinned (OpenSpec.ofChange loomMovesSpec)

/-- ITS FALSE NEIGHBOUR: 'it returns false'. Refute it at one input. -/
def loomMovesWrong : ChangeSpec := { name := "loomMoves", fn := fun _ => fun
  | [d1, d2, d3, d4] => { results := [.lit (.bool false)], args := [d1, d2, d3, d4] }
  | _ => none }
def LoomMovesWrongFalsely : Prop := loomMovesRow.holds Try.pinned (OpenSpec.ofChange loomMovesWrong)

/-- 'massiflaw13.LoomEnds': WHATEVER THE INPUT: true; the input reads as it did. -/
def loomEndsSpec : ChangeSpec := { name := "loomEnds", fn := fun _ => fun
  | [d1, d2, d3, d4, d5] => { results := [.lit (.bool true)], args := [d1, d2, d3, d4, d5] }
  | _ => none }
def loomEndsRow : OpenClaim := { program := "ytfmdghijbkddpaa", sum := "6b67073df4ccab2af8698b6567e92caed7612776ce6da5fd22d3c0b227929ebd", func := "massif/massiflaw13.LoomEnds", spec := "loomEnds", unfollowed := true, recurses := true, apart := false }
def LoomEndsSaid : Prop := loomEndsRow.holds Try.pinned (OpenSpec.ofChange loomEndsSpec)

/-- ITS FALSE NEIGHBOUR: 'it returns false'. Refute it at one input. -/
def loomEndsWrong : ChangeSpec := { name := "loomEnds", fn := fun _ => fun
  | [d1, d2, d3, d4, d5] => { results := [.lit (.bool false)], args := [d1, d2, d3, d4, d5] }
  | _ => none }
def LoomEndsWrongFalsely : Prop := loomEndsRow.holds Try.pinned (OpenSpec.ofChange loomEndsWrong)

/-- 'massiflaw13.LoomPlays': WHATEVER THE INPUT: true; the input reads as it did. -/
def loomPlaysSpec : ChangeSpec := { name := "loomPlays", fn := fun _ => fun
  | [d1, d2, d3, d4, d5, d6] => { results := [.lit (.bool true)], args := [d1, d2, d3, d4, d5, d6] }
  | _ => none }
def loomPlaysRow : OpenClaim := { program := "ytfmdghijbkddpaa", sum := "6b67073df4ccab2af8698b6567e92caed7612776ce6da5fd22d3c0b227929ebd", func := "massif/massiflaw13.LoomPlays", spec := "loomPlays", unfollowed := true, recurses := true, apart := false }
def LoomPlaysSaid : Prop := loomPlaysRow.holds Try.pinned (OpenSpec.ofChange loomPlaysSpec)

/-- ITS FALSE NEIGHBOUR: 'it returns false'. Refute it at one input. -/
def loomPlaysWrong : ChangeSpec := { name := "loomPlays", fn := fun _ => fun
  | [d1, d2, d3, d4, d5, d6] => { results := [.lit (.bool false)], args := [d1, d2, d3, d4, d5, d6] }
  | _ => none }
def LoomPlaysWrongFalsely : Prop := loomPlaysRow.holds Try.pinned (OpenSpec.ofChange loomPlaysWrong)

/- THE SECOND FORM. 'bulk': how many values and letters a reading holds, each counted each time it is reached (what is shared counts as often as it is met; a slice's spare places count too). A statement '..UptoSaid' is the law's where the arguments, and the package variables that the reading takes, are together of bulk at most 1048576: NARROWER than '..Said'. Prove '..Said' where nothing that the law and all that it calls make is longer than what came in: it says more and counts as full. Else prove '..UptoSaid'. A law counts once. -/
mutual
def uptoBulk {H : Type} : DataW H → Nat
  | .lit (.string bytes) => bytes.length + 1
  | .lit _ => 1
  | .nil => 1
  | .ptr d => uptoBulk d + 1
  | .slice elems spare => uptoBulkAll elems + uptoBulkAll spare + 1
  | .agg parts => uptoBulkAll parts + 1
  | .iface _ d => uptoBulk d + 1
  | .map entries => uptoBulkEntries entries + 1
  | .held _ => 1
def uptoBulkAll {H : Type} : List (DataW H) → Nat
  | [] => 0
  | d :: r => uptoBulk d + uptoBulkAll r
def uptoBulkEntries {H : Type} : List (Lit × DataW H) → Nat
  | [] => 0
  | x :: r => uptoBulkEntry x + uptoBulkEntries r
def uptoBulkEntry {H : Type} : Lit × DataW H → Nat
  | (.string bytes, d) => bytes.length + uptoBulk d + 1
  | (_, d) => uptoBulk d + 1
 end
def uptoSmall : (H : Type) → List (DataW H) → Bool := fun _ ds => decide (uptoBulkAll ds ≤ 1048576)
def OpenSpec.upto (s : _root_.Go.ChangeSpec) : _root_.Go.OpenSpec := { _root_.Go.OpenSpec.ofChange s with cond := some uptoSmall }

/-- 'massiflaw13.LoomTops', WHERE WHAT IT READS IS OF BULK AT MOST 1048576: true; the input reads as it did. -/
def loomTopsUptoRow : OpenClaim := { program := "ytfmdghijbkddpaa", sum := "6b67073df4ccab2af8698b6567e92caed7612776ce6da5fd22d3c0b227929ebd", func := "massif/massiflaw13.LoomTops", spec := "loomTops", unfollowed := true, recurses := true, apart := false, narrowed := true }
def LoomTopsUptoSaid : Prop := loomTopsUptoRow.holds Try.pinned (OpenSpec.upto loomTopsSpec)

/-- 'massiflaw13.LoomShuts', WHERE WHAT IT READS IS OF BULK AT MOST 1048576: true; the input reads as it did. -/
def loomShutsUptoRow : OpenClaim := { program := "ytfmdghijbkddpaa", sum := "6b67073df4ccab2af8698b6567e92caed7612776ce6da5fd22d3c0b227929ebd", func := "massif/massiflaw13.LoomShuts", spec := "loomShuts", unfollowed := true, recurses := true, apart := false, narrowed := true }
def LoomShutsUptoSaid : Prop := loomShutsUptoRow.holds Try.pinned (OpenSpec.upto loomShutsSpec)

/-- 'massiflaw13.LoomApart', WHERE WHAT IT READS IS OF BULK AT MOST 1048576: true; the input reads as it did. -/
def loomApartUptoRow : OpenClaim := { program := "ytfmdghijbkddpaa", sum := "6b67073df4ccab2af8698b6567e92caed7612776ce6da5fd22d3c0b227929ebd", func := "massif/massiflaw13.LoomApart", spec := "loomApart", unfollowed := true, recurses := true, apart := false, narrowed := true }
def LoomApartUptoSaid : Prop := loomApartUptoRow.holds Try.pinned (OpenSpec.upto loomApartSpec)

/-- 'massiflaw13.LoomChoice', WHERE WHAT IT READS IS OF BULK AT MOST 1048576: true; the input reads as it did. -/
def loomChoiceUptoRow : OpenClaim := { program := "ytfmdghijbkddpaa", sum := "6b67073df4ccab2af8698b6567e92caed7612776ce6da5fd22d3c0b227929ebd", func := "massif/massiflaw13.LoomChoice", spec := "loomChoice", unfollowed := true, recurses := true, apart := false, narrowed := true }
def LoomChoiceUptoSaid : Prop := loomChoiceUptoRow.holds Try.pinned (OpenSpec.upto loomChoiceSpec)

/-- 'massiflaw13.LoomMoves', WHERE WHAT IT READS IS OF BULK AT MOST 1048576: true; the input reads as it did. -/
def loomMovesUptoRow : OpenClaim := { program := "ytfmdghijbkddpaa", sum := "6b67073df4ccab2af8698b6567e92caed7612776ce6da5fd22d3c0b227929ebd", func := "massif/massiflaw13.LoomMoves", spec := "loomMoves", unfollowed := true, recurses := true, apart := false, narrowed := true }
def LoomMovesUptoSaid : Prop := loomMovesUptoRow.holds Try.pinned (OpenSpec.upto loomMovesSpec)

/-- 'massiflaw13.LoomEnds', WHERE WHAT IT READS IS OF BULK AT MOST 1048576: true; the input reads as it did. -/
def loomEndsUptoRow : OpenClaim := { program := "ytfmdghijbkddpaa", sum := "6b67073df4ccab2af8698b6567e92caed7612776ce6da5fd22d3c0b227929ebd", func := "massif/massiflaw13.LoomEnds", spec := "loomEnds", unfollowed := true, recurses := true, apart := false, narrowed := true }
def LoomEndsUptoSaid : Prop := loomEndsUptoRow.holds Try.pinned (OpenSpec.upto loomEndsSpec)

/-- 'massiflaw13.LoomPlays', WHERE WHAT IT READS IS OF BULK AT MOST 1048576: true; the input reads as it did. -/
def loomPlaysUptoRow : OpenClaim := { program := "ytfmdghijbkddpaa", sum := "6b67073df4ccab2af8698b6567e92caed7612776ce6da5fd22d3c0b227929ebd", func := "massif/massiflaw13.LoomPlays", spec := "loomPlays", unfollowed := true, recurses := true, apart := false, narrowed := true }
def LoomPlaysUptoSaid : Prop := loomPlaysUptoRow.holds Try.pinned (OpenSpec.upto loomPlaysSpec)

end Rows
end Go.Proofs.Ytfmdghijbkddpaa
