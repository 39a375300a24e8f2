/-
  NARROWER THAN 'FOR EVERY INPUT', by the rows' own cells (each row's printed sentence says how): MmrPlays: laid · FindProves: laid · KeepStays: laid · KeepPrunes: laid · KeepProves: laid · KeepAgain: laid · KeepPlays: laid · KeepApart: laid · KeepFroms: laid.
  DERIVED. THE GIVEN ROWS OF THIS SEAT. 9 by the template 'for every input the law returns true; each argument reads behind the call as it read before'; 0 by the template 'total and deterministic' (their statements: YtpklkefnmoaaaaaGreatDoorTotals.lean).
  GIVEN WITH THE SEED: the statements are not yours to turn. If you find one false, say at which input.
  Laid BY PROGRAM, IN A SANDBOX (cutbox-rows.mjs): the forced cells as the released guide's own fill.sh prints them over the translation a6ce33a49f7a53a0… (all of the seat's roots in one cut). By AI agents, Wed Nov 11 2026. No macro, syntax, notation, axiom, sorry.
-/
import Derived.Test.YtpklkefnmoaaaaaGreatDoorChecked
import GoSem.Claim
import GoSem.ClaimJoined
import GoSem.ClaimMapViews
import Derived.JoinedTies
import Derived.KernelRfl
namespace Go.Proofs.YtpklkefnmoaaaaaGreatDoor
/- THE CELL 'sum', in the pinned program and in every row, IS THE sha256 OF THE DUMP (.gsa) THAT YtpklkefnmoaaaaaGreatDoorProg.lean LOADS. Nothing in Lean hashes anything: it is a label: what it is worth is what the hold of that sum in a sandbox is worth. -/
noncomputable def Tryz.pinned : Pinned := { name := "ytpklkefnmoaaaaagreatdoor", sum := "a6ce33a49f7a53a0ca645ccfe20a390cbb1bd9bf472c92da875af761dbf70308", checked := Tryz.checked }
namespace Rows
def none {H : Type} : Left H := { results := [], args := [] }

/- WHAT THE LISTED PACKAGE-LEVEL VARIABLES READ AS WHEN THE CALL BEGINS. Each datum BY PROGRAM (the guide's laid-datum.mjs) off the statement by which the dump's own 'gosem.cut.vars' lays the variable. In a bare row this is a premise. The card (YtpklkefnmoaaaaaGreatDoorCards.lean) ties it to the program's text. -/
def laid_massif_hash_k {H : Type} : DataW H := .agg [.lit (.int .u32 1116352408), .lit (.int .u32 1899447441), .lit (.int .u32 3049323471), .lit (.int .u32 3921009573), .lit (.int .u32 961987163), .lit (.int .u32 1508970993), .lit (.int .u32 2453635748), .lit (.int .u32 2870763221), .lit (.int .u32 3624381080), .lit (.int .u32 310598401), .lit (.int .u32 607225278), .lit (.int .u32 1426881987), .lit (.int .u32 1925078388), .lit (.int .u32 2162078206), .lit (.int .u32 2614888103), .lit (.int .u32 3248222580), .lit (.int .u32 3835390401), .lit (.int .u32 4022224774), .lit (.int .u32 264347078), .lit (.int .u32 604807628), .lit (.int .u32 770255983), .lit (.int .u32 1249150122), .lit (.int .u32 1555081692), .lit (.int .u32 1996064986), .lit (.int .u32 2554220882), .lit (.int .u32 2821834349), .lit (.int .u32 2952996808), .lit (.int .u32 3210313671), .lit (.int .u32 3336571891), .lit (.int .u32 3584528711), .lit (.int .u32 113926993), .lit (.int .u32 338241895), .lit (.int .u32 666307205), .lit (.int .u32 773529912), .lit (.int .u32 1294757372), .lit (.int .u32 1396182291), .lit (.int .u32 1695183700), .lit (.int .u32 1986661051), .lit (.int .u32 2177026350), .lit (.int .u32 2456956037), .lit (.int .u32 2730485921), .lit (.int .u32 2820302411), .lit (.int .u32 3259730800), .lit (.int .u32 3345764771), .lit (.int .u32 3516065817), .lit (.int .u32 3600352804), .lit (.int .u32 4094571909), .lit (.int .u32 275423344), .lit (.int .u32 430227734), .lit (.int .u32 506948616), .lit (.int .u32 659060556), .lit (.int .u32 883997877), .lit (.int .u32 958139571), .lit (.int .u32 1322822218), .lit (.int .u32 1537002063), .lit (.int .u32 1747873779), .lit (.int .u32 1955562222), .lit (.int .u32 2024104815), .lit (.int .u32 2227730452), .lit (.int .u32 2361852424), .lit (.int .u32 2428436474), .lit (.int .u32 2756734187), .lit (.int .u32 3204031479), .lit (.int .u32 3329325298)]
def laid_massif_hash_first {H : Type} : DataW H := .agg [.lit (.int .u8 106), .lit (.int .u8 9), .lit (.int .u8 230), .lit (.int .u8 103), .lit (.int .u8 187), .lit (.int .u8 103), .lit (.int .u8 174), .lit (.int .u8 133), .lit (.int .u8 60), .lit (.int .u8 110), .lit (.int .u8 243), .lit (.int .u8 114), .lit (.int .u8 165), .lit (.int .u8 79), .lit (.int .u8 245), .lit (.int .u8 58), .lit (.int .u8 81), .lit (.int .u8 14), .lit (.int .u8 82), .lit (.int .u8 127), .lit (.int .u8 155), .lit (.int .u8 5), .lit (.int .u8 104), .lit (.int .u8 140), .lit (.int .u8 31), .lit (.int .u8 131), .lit (.int .u8 217), .lit (.int .u8 171), .lit (.int .u8 91), .lit (.int .u8 224), .lit (.int .u8 205), .lit (.int .u8 25)]
def laid_math_bits_deBruijn64tab {H : Type} : DataW H := .agg [.lit (.int .u8 0), .lit (.int .u8 1), .lit (.int .u8 56), .lit (.int .u8 2), .lit (.int .u8 57), .lit (.int .u8 49), .lit (.int .u8 28), .lit (.int .u8 3), .lit (.int .u8 61), .lit (.int .u8 58), .lit (.int .u8 42), .lit (.int .u8 50), .lit (.int .u8 38), .lit (.int .u8 29), .lit (.int .u8 17), .lit (.int .u8 4), .lit (.int .u8 62), .lit (.int .u8 47), .lit (.int .u8 59), .lit (.int .u8 36), .lit (.int .u8 45), .lit (.int .u8 43), .lit (.int .u8 51), .lit (.int .u8 22), .lit (.int .u8 53), .lit (.int .u8 39), .lit (.int .u8 33), .lit (.int .u8 30), .lit (.int .u8 24), .lit (.int .u8 18), .lit (.int .u8 12), .lit (.int .u8 5), .lit (.int .u8 63), .lit (.int .u8 55), .lit (.int .u8 48), .lit (.int .u8 27), .lit (.int .u8 60), .lit (.int .u8 41), .lit (.int .u8 37), .lit (.int .u8 16), .lit (.int .u8 46), .lit (.int .u8 35), .lit (.int .u8 44), .lit (.int .u8 21), .lit (.int .u8 52), .lit (.int .u8 32), .lit (.int .u8 23), .lit (.int .u8 11), .lit (.int .u8 54), .lit (.int .u8 26), .lit (.int .u8 40), .lit (.int .u8 15), .lit (.int .u8 34), .lit (.int .u8 20), .lit (.int .u8 31), .lit (.int .u8 10), .lit (.int .u8 25), .lit (.int .u8 14), .lit (.int .u8 19), .lit (.int .u8 9), .lit (.int .u8 13), .lit (.int .u8 8), .lit (.int .u8 7), .lit (.int .u8 6)]

/-- 'massiflaw6.MmrPlays': WHATEVER THE INPUT: true; the input reads as it did. -/
def mmrPlaysSpec : ChangeSpec := { name := "mmrPlays", fn := fun _ => fun
  | [d1, d2, d3] => { results := [.lit (.bool true)], args := [d1, d2, d3] }
  | _ => none }
def mmrPlaysRow : OpenClaim := { program := "ytpklkefnmoaaaaagreatdoor", sum := "a6ce33a49f7a53a0ca645ccfe20a390cbb1bd9bf472c92da875af761dbf70308", func := "massif/massiflaw6.MmrPlays", spec := "mmrPlays", named := ["massif/hash.first", "massif/hash.k"], plainKeys := false, apart := false, laid := [("massif/hash.k", laid_massif_hash_k), ("massif/hash.first", laid_massif_hash_first)] }
def MmrPlaysSaid : Prop := mmrPlaysRow.holds Tryz.pinned (OpenSpec.ofChange mmrPlaysSpec)

/-- ITS FALSE NEIGHBOUR: 'it returns false'. Refute it at one input. -/
def mmrPlaysWrong : ChangeSpec := { name := "mmrPlays", fn := fun _ => fun
  | [d1, d2, d3] => { results := [.lit (.bool false)], args := [d1, d2, d3] }
  | _ => none }
def MmrPlaysWrongFalsely : Prop := mmrPlaysRow.holds Tryz.pinned (OpenSpec.ofChange mmrPlaysWrong)

/-- 'massiflaw22.FindProves': WHATEVER THE INPUT: true; the input reads as it did. -/
def findProvesSpec : ChangeSpec := { name := "findProves", fn := fun _ => fun
  | [d1, d2, d3, d4] => { results := [.lit (.bool true)], args := [d1, d2, d3, d4] }
  | _ => none }
def findProvesRow : OpenClaim := { program := "ytpklkefnmoaaaaagreatdoor", sum := "a6ce33a49f7a53a0ca645ccfe20a390cbb1bd9bf472c92da875af761dbf70308", func := "massif/massiflaw22.FindProves", spec := "findProves", unfollowed := true, recurses := true, named := ["massif/hash.first", "massif/hash.k"], plainKeys := false, apart := false, laid := [("massif/hash.k", laid_massif_hash_k), ("massif/hash.first", laid_massif_hash_first)] }
def FindProvesSaid : Prop := findProvesRow.holds Tryz.pinned (OpenSpec.ofChange findProvesSpec)

/-- ITS FALSE NEIGHBOUR: 'it returns false'. Refute it at one input. -/
def findProvesWrong : ChangeSpec := { name := "findProves", fn := fun _ => fun
  | [d1, d2, d3, d4] => { results := [.lit (.bool false)], args := [d1, d2, d3, d4] }
  | _ => none }
def FindProvesWrongFalsely : Prop := findProvesRow.holds Tryz.pinned (OpenSpec.ofChange findProvesWrong)

/-- 'massiflaw11.KeepStays': WHATEVER THE INPUT: true; the input reads as it did. -/
def keepStaysSpec : ChangeSpec := { name := "keepStays", fn := fun _ => fun
  | [d1, d2, d3, d4] => { results := [.lit (.bool true)], args := [d1, d2, d3, d4] }
  | _ => none }
def keepStaysRow : OpenClaim := { program := "ytpklkefnmoaaaaagreatdoor", sum := "a6ce33a49f7a53a0ca645ccfe20a390cbb1bd9bf472c92da875af761dbf70308", func := "massif/massiflaw11.KeepStays", spec := "keepStays", unfollowed := true, recurses := true, named := ["massif/hash.first", "massif/hash.k"], plainKeys := false, apart := false, laid := [("massif/hash.k", laid_massif_hash_k), ("massif/hash.first", laid_massif_hash_first)] }
def KeepStaysSaid : Prop := keepStaysRow.holds Tryz.pinned (OpenSpec.ofChange keepStaysSpec)

/-- ITS FALSE NEIGHBOUR: 'it returns false'. Refute it at one input. -/
def keepStaysWrong : ChangeSpec := { name := "keepStays", fn := fun _ => fun
  | [d1, d2, d3, d4] => { results := [.lit (.bool false)], args := [d1, d2, d3, d4] }
  | _ => none }
def KeepStaysWrongFalsely : Prop := keepStaysRow.holds Tryz.pinned (OpenSpec.ofChange keepStaysWrong)

/-- 'massiflaw11.KeepPrunes': WHATEVER THE INPUT: true; the input reads as it did. -/
def keepPrunesSpec : ChangeSpec := { name := "keepPrunes", fn := fun _ => fun
  | [d1, d2, d3] => { results := [.lit (.bool true)], args := [d1, d2, d3] }
  | _ => none }
def keepPrunesRow : OpenClaim := { program := "ytpklkefnmoaaaaagreatdoor", sum := "a6ce33a49f7a53a0ca645ccfe20a390cbb1bd9bf472c92da875af761dbf70308", func := "massif/massiflaw11.KeepPrunes", spec := "keepPrunes", unfollowed := true, recurses := true, named := ["massif/hash.first", "massif/hash.k"], plainKeys := false, apart := false, laid := [("massif/hash.k", laid_massif_hash_k), ("massif/hash.first", laid_massif_hash_first)] }
def KeepPrunesSaid : Prop := keepPrunesRow.holds Tryz.pinned (OpenSpec.ofChange keepPrunesSpec)

/-- ITS FALSE NEIGHBOUR: 'it returns false'. Refute it at one input. -/
def keepPrunesWrong : ChangeSpec := { name := "keepPrunes", fn := fun _ => fun
  | [d1, d2, d3] => { results := [.lit (.bool false)], args := [d1, d2, d3] }
  | _ => none }
def KeepPrunesWrongFalsely : Prop := keepPrunesRow.holds Tryz.pinned (OpenSpec.ofChange keepPrunesWrong)

/-- 'massiflaw11.KeepProves': WHATEVER THE INPUT: true; the input reads as it did. -/
def keepProvesSpec : ChangeSpec := { name := "keepProves", fn := fun _ => fun
  | [d1, d2, d3, d4, d5, d6] => { results := [.lit (.bool true)], args := [d1, d2, d3, d4, d5, d6] }
  | _ => none }
def keepProvesRow : OpenClaim := { program := "ytpklkefnmoaaaaagreatdoor", sum := "a6ce33a49f7a53a0ca645ccfe20a390cbb1bd9bf472c92da875af761dbf70308", func := "massif/massiflaw11.KeepProves", spec := "keepProves", unfollowed := true, recurses := true, named := ["massif/hash.first", "massif/hash.k", "math/bits.deBruijn64tab"], plainKeys := false, apart := false, laid := [("math/bits.deBruijn64tab", laid_math_bits_deBruijn64tab), ("massif/hash.k", laid_massif_hash_k), ("massif/hash.first", laid_massif_hash_first)] }
def KeepProvesSaid : Prop := keepProvesRow.holds Tryz.pinned (OpenSpec.ofChange keepProvesSpec)

/-- ITS FALSE NEIGHBOUR: 'it returns false'. Refute it at one input. -/
def keepProvesWrong : ChangeSpec := { name := "keepProves", fn := fun _ => fun
  | [d1, d2, d3, d4, d5, d6] => { results := [.lit (.bool false)], args := [d1, d2, d3, d4, d5, d6] }
  | _ => none }
def KeepProvesWrongFalsely : Prop := keepProvesRow.holds Tryz.pinned (OpenSpec.ofChange keepProvesWrong)

/-- 'massiflaw11.KeepAgain': WHATEVER THE INPUT: true; the input reads as it did. -/
def keepAgainSpec : ChangeSpec := { name := "keepAgain", fn := fun _ => fun
  | [d1, d2, d3, d4] => { results := [.lit (.bool true)], args := [d1, d2, d3, d4] }
  | _ => none }
def keepAgainRow : OpenClaim := { program := "ytpklkefnmoaaaaagreatdoor", sum := "a6ce33a49f7a53a0ca645ccfe20a390cbb1bd9bf472c92da875af761dbf70308", func := "massif/massiflaw11.KeepAgain", spec := "keepAgain", unfollowed := true, recurses := true, named := ["massif/hash.first", "massif/hash.k"], plainKeys := false, apart := false, laid := [("massif/hash.k", laid_massif_hash_k), ("massif/hash.first", laid_massif_hash_first)] }
def KeepAgainSaid : Prop := keepAgainRow.holds Tryz.pinned (OpenSpec.ofChange keepAgainSpec)

/-- ITS FALSE NEIGHBOUR: 'it returns false'. Refute it at one input. -/
def keepAgainWrong : ChangeSpec := { name := "keepAgain", fn := fun _ => fun
  | [d1, d2, d3, d4] => { results := [.lit (.bool false)], args := [d1, d2, d3, d4] }
  | _ => none }
def KeepAgainWrongFalsely : Prop := keepAgainRow.holds Tryz.pinned (OpenSpec.ofChange keepAgainWrong)

/-- 'massiflaw11.KeepPlays': WHATEVER THE INPUT: true; the input reads as it did. -/
def keepPlaysSpec : ChangeSpec := { name := "keepPlays", fn := fun _ => fun
  | [d1, d2, d3] => { results := [.lit (.bool true)], args := [d1, d2, d3] }
  | _ => none }
def keepPlaysRow : OpenClaim := { program := "ytpklkefnmoaaaaagreatdoor", sum := "a6ce33a49f7a53a0ca645ccfe20a390cbb1bd9bf472c92da875af761dbf70308", func := "massif/massiflaw11.KeepPlays", spec := "keepPlays", unfollowed := true, recurses := true, named := ["massif/hash.first", "massif/hash.k", "math/bits.deBruijn64tab"], plainKeys := false, apart := false, laid := [("math/bits.deBruijn64tab", laid_math_bits_deBruijn64tab), ("massif/hash.k", laid_massif_hash_k), ("massif/hash.first", laid_massif_hash_first)] }
def KeepPlaysSaid : Prop := keepPlaysRow.holds Tryz.pinned (OpenSpec.ofChange keepPlaysSpec)

/-- ITS FALSE NEIGHBOUR: 'it returns false'. Refute it at one input. -/
def keepPlaysWrong : ChangeSpec := { name := "keepPlays", fn := fun _ => fun
  | [d1, d2, d3] => { results := [.lit (.bool false)], args := [d1, d2, d3] }
  | _ => none }
def KeepPlaysWrongFalsely : Prop := keepPlaysRow.holds Tryz.pinned (OpenSpec.ofChange keepPlaysWrong)

/-- 'massiflaw11.KeepApart': WHATEVER THE INPUT: true; the input reads as it did. -/
def keepApartSpec : ChangeSpec := { name := "keepApart", fn := fun _ => fun
  | [d1, d2, d3, d4] => { results := [.lit (.bool true)], args := [d1, d2, d3, d4] }
  | _ => none }
def keepApartRow : OpenClaim := { program := "ytpklkefnmoaaaaagreatdoor", sum := "a6ce33a49f7a53a0ca645ccfe20a390cbb1bd9bf472c92da875af761dbf70308", func := "massif/massiflaw11.KeepApart", spec := "keepApart", unfollowed := true, recurses := true, named := ["massif/hash.first", "massif/hash.k", "math/bits.deBruijn64tab"], plainKeys := false, apart := false, laid := [("math/bits.deBruijn64tab", laid_math_bits_deBruijn64tab), ("massif/hash.k", laid_massif_hash_k), ("massif/hash.first", laid_massif_hash_first)] }
def KeepApartSaid : Prop := keepApartRow.holds Tryz.pinned (OpenSpec.ofChange keepApartSpec)

/-- ITS FALSE NEIGHBOUR: 'it returns false'. Refute it at one input. -/
def keepApartWrong : ChangeSpec := { name := "keepApart", fn := fun _ => fun
  | [d1, d2, d3, d4] => { results := [.lit (.bool false)], args := [d1, d2, d3, d4] }
  | _ => none }
def KeepApartWrongFalsely : Prop := keepApartRow.holds Tryz.pinned (OpenSpec.ofChange keepApartWrong)

/-- 'massiflaw11.KeepFroms': WHATEVER THE INPUT: true; the input reads as it did. -/
def keepFromsSpec : ChangeSpec := { name := "keepFroms", fn := fun _ => fun
  | [d1, d2, d3, d4, d5, d6, d7] => { results := [.lit (.bool true)], args := [d1, d2, d3, d4, d5, d6, d7] }
  | _ => none }
def keepFromsRow : OpenClaim := { program := "ytpklkefnmoaaaaagreatdoor", sum := "a6ce33a49f7a53a0ca645ccfe20a390cbb1bd9bf472c92da875af761dbf70308", func := "massif/massiflaw11.KeepFroms", spec := "keepFroms", unfollowed := true, recurses := true, named := ["massif/hash.first", "massif/hash.k", "math/bits.deBruijn64tab"], plainKeys := false, apart := false, laid := [("math/bits.deBruijn64tab", laid_math_bits_deBruijn64tab), ("massif/hash.k", laid_massif_hash_k), ("massif/hash.first", laid_massif_hash_first)] }
def KeepFromsSaid : Prop := keepFromsRow.holds Tryz.pinned (OpenSpec.ofChange keepFromsSpec)

/-- ITS FALSE NEIGHBOUR: 'it returns false'. Refute it at one input. -/
def keepFromsWrong : ChangeSpec := { name := "keepFroms", fn := fun _ => fun
  | [d1, d2, d3, d4, d5, d6, d7] => { results := [.lit (.bool false)], args := [d1, d2, d3, d4, d5, d6, d7] }
  | _ => none }
def KeepFromsWrongFalsely : Prop := keepFromsRow.holds Tryz.pinned (OpenSpec.ofChange keepFromsWrong)

/- THE SECOND FORM. 'bulk': how many values and letters a reading holds, each counted each time it is reached (what is shared counts as often as it is met; a slice's spare places count too). A statement '..UptoSaid' is the law's where the arguments, and the package variables that the reading takes, are together of bulk at most 1048576: NARROWER than '..Said'. Prove '..Said' where nothing that the law and all that it calls make is longer than what came in: it says more and counts as full. Else prove '..UptoSaid'. A law counts once. -/
mutual
def uptoBulk {H : Type} : DataW H → Nat
  | .lit (.string bytes) => bytes.length + 1
  | .lit _ => 1
  | .nil => 1
  | .ptr d => uptoBulk d + 1
  | .slice elems spare => uptoBulkAll elems + uptoBulkAll spare + 1
  | .agg parts => uptoBulkAll parts + 1
  | .iface _ d => uptoBulk d + 1
  | .map entries => uptoBulkEntries entries + 1
  | .held _ => 1
def uptoBulkAll {H : Type} : List (DataW H) → Nat
  | [] => 0
  | d :: r => uptoBulk d + uptoBulkAll r
def uptoBulkEntries {H : Type} : List (Lit × DataW H) → Nat
  | [] => 0
  | x :: r => uptoBulkEntry x + uptoBulkEntries r
def uptoBulkEntry {H : Type} : Lit × DataW H → Nat
  | (.string bytes, d) => bytes.length + uptoBulk d + 1
  | (_, d) => uptoBulk d + 1
 end
def uptoSmall : (H : Type) → List (DataW H) → Bool := fun _ ds => decide (uptoBulkAll ds ≤ 1048576)
def OpenSpec.upto (s : _root_.Go.ChangeSpec) : _root_.Go.OpenSpec := { _root_.Go.OpenSpec.ofChange s with cond := some uptoSmall }

/-- 'massiflaw6.MmrPlays', WHERE WHAT IT READS IS OF BULK AT MOST 1048576: true; the input reads as it did. -/
def mmrPlaysUptoRow : OpenClaim := { program := "ytpklkefnmoaaaaagreatdoor", sum := "a6ce33a49f7a53a0ca645ccfe20a390cbb1bd9bf472c92da875af761dbf70308", func := "massif/massiflaw6.MmrPlays", spec := "mmrPlays", named := ["massif/hash.first", "massif/hash.k"], plainKeys := false, apart := false, laid := [("massif/hash.k", laid_massif_hash_k), ("massif/hash.first", laid_massif_hash_first)], narrowed := true }
def MmrPlaysUptoSaid : Prop := mmrPlaysUptoRow.holds Tryz.pinned (OpenSpec.upto mmrPlaysSpec)

/-- 'massiflaw22.FindProves', WHERE WHAT IT READS IS OF BULK AT MOST 1048576: true; the input reads as it did. -/
def findProvesUptoRow : OpenClaim := { program := "ytpklkefnmoaaaaagreatdoor", sum := "a6ce33a49f7a53a0ca645ccfe20a390cbb1bd9bf472c92da875af761dbf70308", func := "massif/massiflaw22.FindProves", spec := "findProves", unfollowed := true, recurses := true, named := ["massif/hash.first", "massif/hash.k"], plainKeys := false, apart := false, laid := [("massif/hash.k", laid_massif_hash_k), ("massif/hash.first", laid_massif_hash_first)], narrowed := true }
def FindProvesUptoSaid : Prop := findProvesUptoRow.holds Tryz.pinned (OpenSpec.upto findProvesSpec)

/-- 'massiflaw11.KeepStays', WHERE WHAT IT READS IS OF BULK AT MOST 1048576: true; the input reads as it did. -/
def keepStaysUptoRow : OpenClaim := { program := "ytpklkefnmoaaaaagreatdoor", sum := "a6ce33a49f7a53a0ca645ccfe20a390cbb1bd9bf472c92da875af761dbf70308", func := "massif/massiflaw11.KeepStays", spec := "keepStays", unfollowed := true, recurses := true, named := ["massif/hash.first", "massif/hash.k"], plainKeys := false, apart := false, laid := [("massif/hash.k", laid_massif_hash_k), ("massif/hash.first", laid_massif_hash_first)], narrowed := true }
def KeepStaysUptoSaid : Prop := keepStaysUptoRow.holds Tryz.pinned (OpenSpec.upto keepStaysSpec)

/-- 'massiflaw11.KeepPrunes', WHERE WHAT IT READS IS OF BULK AT MOST 1048576: true; the input reads as it did. -/
def keepPrunesUptoRow : OpenClaim := { program := "ytpklkefnmoaaaaagreatdoor", sum := "a6ce33a49f7a53a0ca645ccfe20a390cbb1bd9bf472c92da875af761dbf70308", func := "massif/massiflaw11.KeepPrunes", spec := "keepPrunes", unfollowed := true, recurses := true, named := ["massif/hash.first", "massif/hash.k"], plainKeys := false, apart := false, laid := [("massif/hash.k", laid_massif_hash_k), ("massif/hash.first", laid_massif_hash_first)], narrowed := true }
def KeepPrunesUptoSaid : Prop := keepPrunesUptoRow.holds Tryz.pinned (OpenSpec.upto keepPrunesSpec)

/-- 'massiflaw11.KeepProves', WHERE WHAT IT READS IS OF BULK AT MOST 1048576: true; the input reads as it did. -/
def keepProvesUptoRow : OpenClaim := { program := "ytpklkefnmoaaaaagreatdoor", sum := "a6ce33a49f7a53a0ca645ccfe20a390cbb1bd9bf472c92da875af761dbf70308", func := "massif/massiflaw11.KeepProves", spec := "keepProves", unfollowed := true, recurses := true, named := ["massif/hash.first", "massif/hash.k", "math/bits.deBruijn64tab"], plainKeys := false, apart := false, laid := [("math/bits.deBruijn64tab", laid_math_bits_deBruijn64tab), ("massif/hash.k", laid_massif_hash_k), ("massif/hash.first", laid_massif_hash_first)], narrowed := true }
def KeepProvesUptoSaid : Prop := keepProvesUptoRow.holds Tryz.pinned (OpenSpec.upto keepProvesSpec)

/-- 'massiflaw11.KeepAgain', WHERE WHAT IT READS IS OF BULK AT MOST 1048576: true; the input reads as it did. -/
def keepAgainUptoRow : OpenClaim := { program := "ytpklkefnmoaaaaagreatdoor", sum := "a6ce33a49f7a53a0ca645ccfe20a390cbb1bd9bf472c92da875af761dbf70308", func := "massif/massiflaw11.KeepAgain", spec := "keepAgain", unfollowed := true, recurses := true, named := ["massif/hash.first", "massif/hash.k"], plainKeys := false, apart := false, laid := [("massif/hash.k", laid_massif_hash_k), ("massif/hash.first", laid_massif_hash_first)], narrowed := true }
def KeepAgainUptoSaid : Prop := keepAgainUptoRow.holds Tryz.pinned (OpenSpec.upto keepAgainSpec)

/-- 'massiflaw11.KeepPlays', WHERE WHAT IT READS IS OF BULK AT MOST 1048576: true; the input reads as it did. -/
def keepPlaysUptoRow : OpenClaim := { program := "ytpklkefnmoaaaaagreatdoor", sum := "a6ce33a49f7a53a0ca645ccfe20a390cbb1bd9bf472c92da875af761dbf70308", func := "massif/massiflaw11.KeepPlays", spec := "keepPlays", unfollowed := true, recurses := true, named := ["massif/hash.first", "massif/hash.k", "math/bits.deBruijn64tab"], plainKeys := false, apart := false, laid := [("math/bits.deBruijn64tab", laid_math_bits_deBruijn64tab), ("massif/hash.k", laid_massif_hash_k), ("massif/hash.first", laid_massif_hash_first)], narrowed := true }
def KeepPlaysUptoSaid : Prop := keepPlaysUptoRow.holds Tryz.pinned (OpenSpec.upto keepPlaysSpec)

/-- 'massiflaw11.KeepApart', WHERE WHAT IT READS IS OF BULK AT MOST 1048576: true; the input reads as it did. -/
def keepApartUptoRow : OpenClaim := { program := "ytpklkefnmoaaaaagreatdoor", sum := "a6ce33a49f7a53a0ca645ccfe20a390cbb1bd9bf472c92da875af761dbf70308", func := "massif/massiflaw11.KeepApart", spec := "keepApart", unfollowed := true, recurses := true, named := ["massif/hash.first", "massif/hash.k", "math/bits.deBruijn64tab"], plainKeys := false, apart := false, laid := [("math/bits.deBruijn64tab", laid_math_bits_deBruijn64tab), ("massif/hash.k", laid_massif_hash_k), ("massif/hash.first", laid_massif_hash_first)], narrowed := true }
def KeepApartUptoSaid : Prop := keepApartUptoRow.holds Tryz.pinned (OpenSpec.upto keepApartSpec)

/-- 'massiflaw11.KeepFroms', WHERE WHAT IT READS IS OF BULK AT MOST 1048576: true; the input reads as it did. -/
def keepFromsUptoRow : OpenClaim := { program := "ytpklkefnmoaaaaagreatdoor", sum := "a6ce33a49f7a53a0ca645ccfe20a390cbb1bd9bf472c92da875af761dbf70308", func := "massif/massiflaw11.KeepFroms", spec := "keepFroms", unfollowed := true, recurses := true, named := ["massif/hash.first", "massif/hash.k", "math/bits.deBruijn64tab"], plainKeys := false, apart := false, laid := [("math/bits.deBruijn64tab", laid_math_bits_deBruijn64tab), ("massif/hash.k", laid_massif_hash_k), ("massif/hash.first", laid_massif_hash_first)], narrowed := true }
def KeepFromsUptoSaid : Prop := keepFromsUptoRow.holds Tryz.pinned (OpenSpec.upto keepFromsSpec)

end Rows
end Go.Proofs.YtpklkefnmoaaaaaGreatDoor
