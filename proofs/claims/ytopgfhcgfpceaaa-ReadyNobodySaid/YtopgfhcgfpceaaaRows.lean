/-
  No cell of these rows narrows 'for every input' (looked for: loops, veiled, ifaces, maps, wideKeys, modest, calm, conditions, laid).
  DERIVED. THE GIVEN ROWS OF THIS SEAT. 14 by the template 'for every input the law returns true; each argument reads behind the call as it read before'; 0 by the template 'total and deterministic' (their statements: YtopgfhcgfpceaaaTotals.lean).
  GIVEN WITH THE SEED: the statements are not yours to turn. If you find one false, say at which input.
  Laid BY PROGRAM, IN A SANDBOX (cutbox-rows.mjs): the forced cells as the released guide's own fill.sh prints them over the translation d6f1a74ad6d582e9… (all of the seat's roots in one cut). By AI agents, Wed Nov 11 2026. No macro, syntax, notation, axiom, sorry.
-/
import Derived.Test.YtopgfhcgfpceaaaChecked
import GoSem.Claim
import GoSem.ClaimJoined
import GoSem.ClaimMapViews
import Derived.JoinedTies
import Derived.KernelRfl
namespace Go.Proofs.Ytopgfhcgfpceaaa
/- THE CELL 'sum', in the pinned program and in every row, IS THE sha256 OF THE DUMP (.gsa) THAT YtopgfhcgfpceaaaProg.lean LOADS. Nothing in Lean hashes anything: it is a label: what it is worth is what the hold of that sum in a sandbox is worth. -/
noncomputable def Try.pinned : Pinned := { name := "ytopgfhcgfpceaaa", sum := "d6f1a74ad6d582e98df062f6ae8ef3c18f00dfd4cbab2cd225468bbec01ced0d", checked := Try.checked }
namespace Rows
def none {H : Type} : Left H := { results := [], args := [] }

/-- 'tappetlaw16.ClockComing': WHATEVER THE INPUT: true; the input reads as it did. -/
def clockComingSpec : ChangeSpec := { name := "clockComing", fn := fun _ => fun
  | [d1, d2, d3] => { results := [.lit (.bool true)], args := [d1, d2, d3] }
  | _ => none }
def clockComingRow : OpenClaim := { program := "ytopgfhcgfpceaaa", sum := "d6f1a74ad6d582e98df062f6ae8ef3c18f00dfd4cbab2cd225468bbec01ced0d", func := "tappet/tappetlaw16.ClockComing", spec := "clockComing", unfollowed := true, recurses := true, plainKeys := false, apart := false }
def ClockComingSaid : Prop := clockComingRow.holds Try.pinned (OpenSpec.ofChange clockComingSpec)

/-- ITS FALSE NEIGHBOUR: 'it returns false'. Refute it at one input. -/
def clockComingWrong : ChangeSpec := { name := "clockComing", fn := fun _ => fun
  | [d1, d2, d3] => { results := [.lit (.bool false)], args := [d1, d2, d3] }
  | _ => none }
def ClockComingWrongFalsely : Prop := clockComingRow.holds Try.pinned (OpenSpec.ofChange clockComingWrong)

/-- 'tappetlaw13.ReadyRanges': WHATEVER THE INPUT: true; the input reads as it did. -/
def readyRangesSpec : ChangeSpec := { name := "readyRanges", fn := fun _ => fun
  | [d1, d2, d3] => { results := [.lit (.bool true)], args := [d1, d2, d3] }
  | _ => none }
def readyRangesRow : OpenClaim := { program := "ytopgfhcgfpceaaa", sum := "d6f1a74ad6d582e98df062f6ae8ef3c18f00dfd4cbab2cd225468bbec01ced0d", func := "tappet/tappetlaw13.ReadyRanges", spec := "readyRanges", unfollowed := true, recurses := true, plainKeys := false, apart := false }
def ReadyRangesSaid : Prop := readyRangesRow.holds Try.pinned (OpenSpec.ofChange readyRangesSpec)

/-- ITS FALSE NEIGHBOUR: 'it returns false'. Refute it at one input. -/
def readyRangesWrong : ChangeSpec := { name := "readyRanges", fn := fun _ => fun
  | [d1, d2, d3] => { results := [.lit (.bool false)], args := [d1, d2, d3] }
  | _ => none }
def ReadyRangesWrongFalsely : Prop := readyRangesRow.holds Try.pinned (OpenSpec.ofChange readyRangesWrong)

/-- 'tappetlaw16.ClockPlays': WHATEVER THE INPUT: true; the input reads as it did. -/
def clockPlaysSpec : ChangeSpec := { name := "clockPlays", fn := fun _ => fun
  | [d1, d2, d3] => { results := [.lit (.bool true)], args := [d1, d2, d3] }
  | _ => none }
def clockPlaysRow : OpenClaim := { program := "ytopgfhcgfpceaaa", sum := "d6f1a74ad6d582e98df062f6ae8ef3c18f00dfd4cbab2cd225468bbec01ced0d", func := "tappet/tappetlaw16.ClockPlays", spec := "clockPlays", unfollowed := true, recurses := true, plainKeys := false, apart := false }
def ClockPlaysSaid : Prop := clockPlaysRow.holds Try.pinned (OpenSpec.ofChange clockPlaysSpec)

/-- ITS FALSE NEIGHBOUR: 'it returns false'. Refute it at one input. -/
def clockPlaysWrong : ChangeSpec := { name := "clockPlays", fn := fun _ => fun
  | [d1, d2, d3] => { results := [.lit (.bool false)], args := [d1, d2, d3] }
  | _ => none }
def ClockPlaysWrongFalsely : Prop := clockPlaysRow.holds Try.pinned (OpenSpec.ofChange clockPlaysWrong)

/-- 'tappetlaw16.ClockApart': WHATEVER THE INPUT: true; the input reads as it did. -/
def clockApartSpec : ChangeSpec := { name := "clockApart", fn := fun _ => fun
  | [d1, d2, d3] => { results := [.lit (.bool true)], args := [d1, d2, d3] }
  | _ => none }
def clockApartRow : OpenClaim := { program := "ytopgfhcgfpceaaa", sum := "d6f1a74ad6d582e98df062f6ae8ef3c18f00dfd4cbab2cd225468bbec01ced0d", func := "tappet/tappetlaw16.ClockApart", spec := "clockApart", unfollowed := true, recurses := true, plainKeys := false, apart := false }
def ClockApartSaid : Prop := clockApartRow.holds Try.pinned (OpenSpec.ofChange clockApartSpec)

/-- ITS FALSE NEIGHBOUR: 'it returns false'. Refute it at one input. -/
def clockApartWrong : ChangeSpec := { name := "clockApart", fn := fun _ => fun
  | [d1, d2, d3] => { results := [.lit (.bool false)], args := [d1, d2, d3] }
  | _ => none }
def ClockApartWrongFalsely : Prop := clockApartRow.holds Try.pinned (OpenSpec.ofChange clockApartWrong)

/-- 'tappetlaw13.ReadyMakes': WHATEVER THE INPUT: true; the input reads as it did. -/
def readyMakesSpec : ChangeSpec := { name := "readyMakes", fn := fun _ => fun
  | [d] => { results := [.lit (.bool true)], args := [d] }
  | _ => none }
def readyMakesRow : OpenClaim := { program := "ytopgfhcgfpceaaa", sum := "d6f1a74ad6d582e98df062f6ae8ef3c18f00dfd4cbab2cd225468bbec01ced0d", func := "tappet/tappetlaw13.ReadyMakes", spec := "readyMakes", unfollowed := true, recurses := true, plainKeys := false, apart := false }
def ReadyMakesSaid : Prop := readyMakesRow.holds Try.pinned (OpenSpec.ofChange readyMakesSpec)

/-- ITS FALSE NEIGHBOUR: 'it returns false'. Refute it at one input. -/
def readyMakesWrong : ChangeSpec := { name := "readyMakes", fn := fun _ => fun
  | [d] => { results := [.lit (.bool false)], args := [d] }
  | _ => none }
def ReadyMakesWrongFalsely : Prop := readyMakesRow.holds Try.pinned (OpenSpec.ofChange readyMakesWrong)

/-- 'tappetlaw13.ReadyFirst': WHATEVER THE INPUT: true; the input reads as it did. -/
def readyFirstSpec : ChangeSpec := { name := "readyFirst", fn := fun _ => fun
  | [d1, d2] => { results := [.lit (.bool true)], args := [d1, d2] }
  | _ => none }
def readyFirstRow : OpenClaim := { program := "ytopgfhcgfpceaaa", sum := "d6f1a74ad6d582e98df062f6ae8ef3c18f00dfd4cbab2cd225468bbec01ced0d", func := "tappet/tappetlaw13.ReadyFirst", spec := "readyFirst", unfollowed := true, recurses := true, plainKeys := false, apart := false }
def ReadyFirstSaid : Prop := readyFirstRow.holds Try.pinned (OpenSpec.ofChange readyFirstSpec)

/-- ITS FALSE NEIGHBOUR: 'it returns false'. Refute it at one input. -/
def readyFirstWrong : ChangeSpec := { name := "readyFirst", fn := fun _ => fun
  | [d1, d2] => { results := [.lit (.bool false)], args := [d1, d2] }
  | _ => none }
def ReadyFirstWrongFalsely : Prop := readyFirstRow.holds Try.pinned (OpenSpec.ofChange readyFirstWrong)

/-- 'tappetlaw13.ReadyPlays': WHATEVER THE INPUT: true; the input reads as it did. -/
def readyPlaysSpec : ChangeSpec := { name := "readyPlays", fn := fun _ => fun
  | [d1, d2] => { results := [.lit (.bool true)], args := [d1, d2] }
  | _ => none }
def readyPlaysRow : OpenClaim := { program := "ytopgfhcgfpceaaa", sum := "d6f1a74ad6d582e98df062f6ae8ef3c18f00dfd4cbab2cd225468bbec01ced0d", func := "tappet/tappetlaw13.ReadyPlays", spec := "readyPlays", unfollowed := true, recurses := true, plainKeys := false, apart := false }
def ReadyPlaysSaid : Prop := readyPlaysRow.holds Try.pinned (OpenSpec.ofChange readyPlaysSpec)

/-- ITS FALSE NEIGHBOUR: 'it returns false'. Refute it at one input. -/
def readyPlaysWrong : ChangeSpec := { name := "readyPlays", fn := fun _ => fun
  | [d1, d2] => { results := [.lit (.bool false)], args := [d1, d2] }
  | _ => none }
def ReadyPlaysWrongFalsely : Prop := readyPlaysRow.holds Try.pinned (OpenSpec.ofChange readyPlaysWrong)

/-- 'tappetlaw13.ReadyNobody': WHATEVER THE INPUT: true; the input reads as it did. -/
def readyNobodySpec : ChangeSpec := { name := "readyNobody", fn := fun _ => fun
  | [d1, d2] => { results := [.lit (.bool true)], args := [d1, d2] }
  | _ => none }
def readyNobodyRow : OpenClaim := { program := "ytopgfhcgfpceaaa", sum := "d6f1a74ad6d582e98df062f6ae8ef3c18f00dfd4cbab2cd225468bbec01ced0d", func := "tappet/tappetlaw13.ReadyNobody", spec := "readyNobody", unfollowed := true, recurses := true, plainKeys := false, apart := false }
def ReadyNobodySaid : Prop := readyNobodyRow.holds Try.pinned (OpenSpec.ofChange readyNobodySpec)

/-- ITS FALSE NEIGHBOUR: 'it returns false'. Refute it at one input. -/
def readyNobodyWrong : ChangeSpec := { name := "readyNobody", fn := fun _ => fun
  | [d1, d2] => { results := [.lit (.bool false)], args := [d1, d2] }
  | _ => none }
def ReadyNobodyWrongFalsely : Prop := readyNobodyRow.holds Try.pinned (OpenSpec.ofChange readyNobodyWrong)

/-- 'tappetlaw19.LockOne': WHATEVER THE INPUT: true; the input reads as it did. -/
def lockOneSpec : ChangeSpec := { name := "lockOne", fn := fun _ => fun
  | [d1, d2] => { results := [.lit (.bool true)], args := [d1, d2] }
  | _ => none }
def lockOneRow : OpenClaim := { program := "ytopgfhcgfpceaaa", sum := "d6f1a74ad6d582e98df062f6ae8ef3c18f00dfd4cbab2cd225468bbec01ced0d", func := "tappet/tappetlaw19.LockOne", spec := "lockOne", unfollowed := true, recurses := true, plainKeys := false, apart := false }
def LockOneSaid : Prop := lockOneRow.holds Try.pinned (OpenSpec.ofChange lockOneSpec)

/-- ITS FALSE NEIGHBOUR: 'it returns false'. Refute it at one input. -/
def lockOneWrong : ChangeSpec := { name := "lockOne", fn := fun _ => fun
  | [d1, d2] => { results := [.lit (.bool false)], args := [d1, d2] }
  | _ => none }
def LockOneWrongFalsely : Prop := lockOneRow.holds Try.pinned (OpenSpec.ofChange lockOneWrong)

/-- 'tappetlaw21.TickExact': WHATEVER THE INPUT: true; the input reads as it did. -/
def tickExactSpec : ChangeSpec := { name := "tickExact", fn := fun _ => fun
  | [d1, d2, d3, d4, d5, d6] => { results := [.lit (.bool true)], args := [d1, d2, d3, d4, d5, d6] }
  | _ => none }
def tickExactRow : OpenClaim := { program := "ytopgfhcgfpceaaa", sum := "d6f1a74ad6d582e98df062f6ae8ef3c18f00dfd4cbab2cd225468bbec01ced0d", func := "tappet/tappetlaw21.TickExact", spec := "tickExact", unfollowed := true, recurses := true, plainKeys := false, apart := false }
def TickExactSaid : Prop := tickExactRow.holds Try.pinned (OpenSpec.ofChange tickExactSpec)

/-- ITS FALSE NEIGHBOUR: 'it returns false'. Refute it at one input. -/
def tickExactWrong : ChangeSpec := { name := "tickExact", fn := fun _ => fun
  | [d1, d2, d3, d4, d5, d6] => { results := [.lit (.bool false)], args := [d1, d2, d3, d4, d5, d6] }
  | _ => none }
def TickExactWrongFalsely : Prop := tickExactRow.holds Try.pinned (OpenSpec.ofChange tickExactWrong)

/-- 'tappetlaw19.LockPlays': WHATEVER THE INPUT: true; the input reads as it did. -/
def lockPlaysSpec : ChangeSpec := { name := "lockPlays", fn := fun _ => fun
  | [d1, d2] => { results := [.lit (.bool true)], args := [d1, d2] }
  | _ => none }
def lockPlaysRow : OpenClaim := { program := "ytopgfhcgfpceaaa", sum := "d6f1a74ad6d582e98df062f6ae8ef3c18f00dfd4cbab2cd225468bbec01ced0d", func := "tappet/tappetlaw19.LockPlays", spec := "lockPlays", unfollowed := true, recurses := true, plainKeys := false, apart := false }
def LockPlaysSaid : Prop := lockPlaysRow.holds Try.pinned (OpenSpec.ofChange lockPlaysSpec)

/-- ITS FALSE NEIGHBOUR: 'it returns false'. Refute it at one input. -/
def lockPlaysWrong : ChangeSpec := { name := "lockPlays", fn := fun _ => fun
  | [d1, d2] => { results := [.lit (.bool false)], args := [d1, d2] }
  | _ => none }
def LockPlaysWrongFalsely : Prop := lockPlaysRow.holds Try.pinned (OpenSpec.ofChange lockPlaysWrong)

/-- 'tappetlaw19.LockNobody': WHATEVER THE INPUT: true; the input reads as it did. -/
def lockNobodySpec : ChangeSpec := { name := "lockNobody", fn := fun _ => fun
  | [d1, d2, d3] => { results := [.lit (.bool true)], args := [d1, d2, d3] }
  | _ => none }
def lockNobodyRow : OpenClaim := { program := "ytopgfhcgfpceaaa", sum := "d6f1a74ad6d582e98df062f6ae8ef3c18f00dfd4cbab2cd225468bbec01ced0d", func := "tappet/tappetlaw19.LockNobody", spec := "lockNobody", unfollowed := true, recurses := true, plainKeys := false, apart := false }
def LockNobodySaid : Prop := lockNobodyRow.holds Try.pinned (OpenSpec.ofChange lockNobodySpec)

/-- ITS FALSE NEIGHBOUR: 'it returns false'. Refute it at one input. -/
def lockNobodyWrong : ChangeSpec := { name := "lockNobody", fn := fun _ => fun
  | [d1, d2, d3] => { results := [.lit (.bool false)], args := [d1, d2, d3] }
  | _ => none }
def LockNobodyWrongFalsely : Prop := lockNobodyRow.holds Try.pinned (OpenSpec.ofChange lockNobodyWrong)

/-- 'tappetlaw21.TickPlays': WHATEVER THE INPUT: true; the input reads as it did. -/
def tickPlaysSpec : ChangeSpec := { name := "tickPlays", fn := fun _ => fun
  | [d1, d2] => { results := [.lit (.bool true)], args := [d1, d2] }
  | _ => none }
def tickPlaysRow : OpenClaim := { program := "ytopgfhcgfpceaaa", sum := "d6f1a74ad6d582e98df062f6ae8ef3c18f00dfd4cbab2cd225468bbec01ced0d", func := "tappet/tappetlaw21.TickPlays", spec := "tickPlays", unfollowed := true, recurses := true, plainKeys := false, apart := false }
def TickPlaysSaid : Prop := tickPlaysRow.holds Try.pinned (OpenSpec.ofChange tickPlaysSpec)

/-- ITS FALSE NEIGHBOUR: 'it returns false'. Refute it at one input. -/
def tickPlaysWrong : ChangeSpec := { name := "tickPlays", fn := fun _ => fun
  | [d1, d2] => { results := [.lit (.bool false)], args := [d1, d2] }
  | _ => none }
def TickPlaysWrongFalsely : Prop := tickPlaysRow.holds Try.pinned (OpenSpec.ofChange tickPlaysWrong)

/-- 'tappetlaw21.TickNobody': WHATEVER THE INPUT: true; the input reads as it did. -/
def tickNobodySpec : ChangeSpec := { name := "tickNobody", fn := fun _ => fun
  | [d1, d2, d3] => { results := [.lit (.bool true)], args := [d1, d2, d3] }
  | _ => none }
def tickNobodyRow : OpenClaim := { program := "ytopgfhcgfpceaaa", sum := "d6f1a74ad6d582e98df062f6ae8ef3c18f00dfd4cbab2cd225468bbec01ced0d", func := "tappet/tappetlaw21.TickNobody", spec := "tickNobody", unfollowed := true, recurses := true, plainKeys := false, apart := false }
def TickNobodySaid : Prop := tickNobodyRow.holds Try.pinned (OpenSpec.ofChange tickNobodySpec)

/-- ITS FALSE NEIGHBOUR: 'it returns false'. Refute it at one input. -/
def tickNobodyWrong : ChangeSpec := { name := "tickNobody", fn := fun _ => fun
  | [d1, d2, d3] => { results := [.lit (.bool false)], args := [d1, d2, d3] }
  | _ => none }
def TickNobodyWrongFalsely : Prop := tickNobodyRow.holds Try.pinned (OpenSpec.ofChange tickNobodyWrong)

/- THE SECOND FORM. 'bulk': how many values and letters a reading holds, each counted each time it is reached (what is shared counts as often as it is met; a slice's spare places count too). A statement '..UptoSaid' is the law's where the arguments, and the package variables that the reading takes, are together of bulk at most 1048576: NARROWER than '..Said'. Prove '..Said' where nothing that the law and all that it calls make is longer than what came in: it says more and counts as full. Else prove '..UptoSaid'. A law counts once. -/
mutual
def uptoBulk {H : Type} : DataW H → Nat
  | .lit (.string bytes) => bytes.length + 1
  | .lit _ => 1
  | .nil => 1
  | .ptr d => uptoBulk d + 1
  | .slice elems spare => uptoBulkAll elems + uptoBulkAll spare + 1
  | .agg parts => uptoBulkAll parts + 1
  | .iface _ d => uptoBulk d + 1
  | .map entries => uptoBulkEntries entries + 1
  | .held _ => 1
def uptoBulkAll {H : Type} : List (DataW H) → Nat
  | [] => 0
  | d :: r => uptoBulk d + uptoBulkAll r
def uptoBulkEntries {H : Type} : List (Lit × DataW H) → Nat
  | [] => 0
  | x :: r => uptoBulkEntry x + uptoBulkEntries r
def uptoBulkEntry {H : Type} : Lit × DataW H → Nat
  | (.string bytes, d) => bytes.length + uptoBulk d + 1
  | (_, d) => uptoBulk d + 1
 end
def uptoSmall : (H : Type) → List (DataW H) → Bool := fun _ ds => decide (uptoBulkAll ds ≤ 1048576)
def OpenSpec.upto (s : _root_.Go.ChangeSpec) : _root_.Go.OpenSpec := { _root_.Go.OpenSpec.ofChange s with cond := some uptoSmall }

/-- 'tappetlaw16.ClockComing', WHERE WHAT IT READS IS OF BULK AT MOST 1048576: true; the input reads as it did. -/
def clockComingUptoRow : OpenClaim := { program := "ytopgfhcgfpceaaa", sum := "d6f1a74ad6d582e98df062f6ae8ef3c18f00dfd4cbab2cd225468bbec01ced0d", func := "tappet/tappetlaw16.ClockComing", spec := "clockComing", unfollowed := true, recurses := true, plainKeys := false, apart := false, narrowed := true }
def ClockComingUptoSaid : Prop := clockComingUptoRow.holds Try.pinned (OpenSpec.upto clockComingSpec)

/-- 'tappetlaw13.ReadyRanges', WHERE WHAT IT READS IS OF BULK AT MOST 1048576: true; the input reads as it did. -/
def readyRangesUptoRow : OpenClaim := { program := "ytopgfhcgfpceaaa", sum := "d6f1a74ad6d582e98df062f6ae8ef3c18f00dfd4cbab2cd225468bbec01ced0d", func := "tappet/tappetlaw13.ReadyRanges", spec := "readyRanges", unfollowed := true, recurses := true, plainKeys := false, apart := false, narrowed := true }
def ReadyRangesUptoSaid : Prop := readyRangesUptoRow.holds Try.pinned (OpenSpec.upto readyRangesSpec)

/-- 'tappetlaw16.ClockPlays', WHERE WHAT IT READS IS OF BULK AT MOST 1048576: true; the input reads as it did. -/
def clockPlaysUptoRow : OpenClaim := { program := "ytopgfhcgfpceaaa", sum := "d6f1a74ad6d582e98df062f6ae8ef3c18f00dfd4cbab2cd225468bbec01ced0d", func := "tappet/tappetlaw16.ClockPlays", spec := "clockPlays", unfollowed := true, recurses := true, plainKeys := false, apart := false, narrowed := true }
def ClockPlaysUptoSaid : Prop := clockPlaysUptoRow.holds Try.pinned (OpenSpec.upto clockPlaysSpec)

/-- 'tappetlaw16.ClockApart', WHERE WHAT IT READS IS OF BULK AT MOST 1048576: true; the input reads as it did. -/
def clockApartUptoRow : OpenClaim := { program := "ytopgfhcgfpceaaa", sum := "d6f1a74ad6d582e98df062f6ae8ef3c18f00dfd4cbab2cd225468bbec01ced0d", func := "tappet/tappetlaw16.ClockApart", spec := "clockApart", unfollowed := true, recurses := true, plainKeys := false, apart := false, narrowed := true }
def ClockApartUptoSaid : Prop := clockApartUptoRow.holds Try.pinned (OpenSpec.upto clockApartSpec)

/-- 'tappetlaw13.ReadyMakes', WHERE WHAT IT READS IS OF BULK AT MOST 1048576: true; the input reads as it did. -/
def readyMakesUptoRow : OpenClaim := { program := "ytopgfhcgfpceaaa", sum := "d6f1a74ad6d582e98df062f6ae8ef3c18f00dfd4cbab2cd225468bbec01ced0d", func := "tappet/tappetlaw13.ReadyMakes", spec := "readyMakes", unfollowed := true, recurses := true, plainKeys := false, apart := false, narrowed := true }
def ReadyMakesUptoSaid : Prop := readyMakesUptoRow.holds Try.pinned (OpenSpec.upto readyMakesSpec)

/-- 'tappetlaw13.ReadyFirst', WHERE WHAT IT READS IS OF BULK AT MOST 1048576: true; the input reads as it did. -/
def readyFirstUptoRow : OpenClaim := { program := "ytopgfhcgfpceaaa", sum := "d6f1a74ad6d582e98df062f6ae8ef3c18f00dfd4cbab2cd225468bbec01ced0d", func := "tappet/tappetlaw13.ReadyFirst", spec := "readyFirst", unfollowed := true, recurses := true, plainKeys := false, apart := false, narrowed := true }
def ReadyFirstUptoSaid : Prop := readyFirstUptoRow.holds Try.pinned (OpenSpec.upto readyFirstSpec)

/-- 'tappetlaw13.ReadyPlays', WHERE WHAT IT READS IS OF BULK AT MOST 1048576: true; the input reads as it did. -/
def readyPlaysUptoRow : OpenClaim := { program := "ytopgfhcgfpceaaa", sum := "d6f1a74ad6d582e98df062f6ae8ef3c18f00dfd4cbab2cd225468bbec01ced0d", func := "tappet/tappetlaw13.ReadyPlays", spec := "readyPlays", unfollowed := true, recurses := true, plainKeys := false, apart := false, narrowed := true }
def ReadyPlaysUptoSaid : Prop := readyPlaysUptoRow.holds Try.pinned (OpenSpec.upto readyPlaysSpec)

/-- 'tappetlaw13.ReadyNobody', WHERE WHAT IT READS IS OF BULK AT MOST 1048576: true; the input reads as it did. -/
def readyNobodyUptoRow : OpenClaim := { program := "ytopgfhcgfpceaaa", sum := "d6f1a74ad6d582e98df062f6ae8ef3c18f00dfd4cbab2cd225468bbec01ced0d", func := "tappet/tappetlaw13.ReadyNobody", spec := "readyNobody", unfollowed := true, recurses := true, plainKeys := false, apart := false, narrowed := true }
def ReadyNobodyUptoSaid : Prop := readyNobodyUptoRow.holds Try.pinned (OpenSpec.upto readyNobodySpec)

/-- 'tappetlaw19.LockOne', WHERE WHAT IT READS IS OF BULK AT MOST 1048576: true; the input reads as it did. -/
def lockOneUptoRow : OpenClaim := { program := "ytopgfhcgfpceaaa", sum := "d6f1a74ad6d582e98df062f6ae8ef3c18f00dfd4cbab2cd225468bbec01ced0d", func := "tappet/tappetlaw19.LockOne", spec := "lockOne", unfollowed := true, recurses := true, plainKeys := false, apart := false, narrowed := true }
def LockOneUptoSaid : Prop := lockOneUptoRow.holds Try.pinned (OpenSpec.upto lockOneSpec)

/-- 'tappetlaw21.TickExact', WHERE WHAT IT READS IS OF BULK AT MOST 1048576: true; the input reads as it did. -/
def tickExactUptoRow : OpenClaim := { program := "ytopgfhcgfpceaaa", sum := "d6f1a74ad6d582e98df062f6ae8ef3c18f00dfd4cbab2cd225468bbec01ced0d", func := "tappet/tappetlaw21.TickExact", spec := "tickExact", unfollowed := true, recurses := true, plainKeys := false, apart := false, narrowed := true }
def TickExactUptoSaid : Prop := tickExactUptoRow.holds Try.pinned (OpenSpec.upto tickExactSpec)

/-- 'tappetlaw19.LockPlays', WHERE WHAT IT READS IS OF BULK AT MOST 1048576: true; the input reads as it did. -/
def lockPlaysUptoRow : OpenClaim := { program := "ytopgfhcgfpceaaa", sum := "d6f1a74ad6d582e98df062f6ae8ef3c18f00dfd4cbab2cd225468bbec01ced0d", func := "tappet/tappetlaw19.LockPlays", spec := "lockPlays", unfollowed := true, recurses := true, plainKeys := false, apart := false, narrowed := true }
def LockPlaysUptoSaid : Prop := lockPlaysUptoRow.holds Try.pinned (OpenSpec.upto lockPlaysSpec)

/-- 'tappetlaw19.LockNobody', WHERE WHAT IT READS IS OF BULK AT MOST 1048576: true; the input reads as it did. -/
def lockNobodyUptoRow : OpenClaim := { program := "ytopgfhcgfpceaaa", sum := "d6f1a74ad6d582e98df062f6ae8ef3c18f00dfd4cbab2cd225468bbec01ced0d", func := "tappet/tappetlaw19.LockNobody", spec := "lockNobody", unfollowed := true, recurses := true, plainKeys := false, apart := false, narrowed := true }
def LockNobodyUptoSaid : Prop := lockNobodyUptoRow.holds Try.pinned (OpenSpec.upto lockNobodySpec)

/-- 'tappetlaw21.TickPlays', WHERE WHAT IT READS IS OF BULK AT MOST 1048576: true; the input reads as it did. -/
def tickPlaysUptoRow : OpenClaim := { program := "ytopgfhcgfpceaaa", sum := "d6f1a74ad6d582e98df062f6ae8ef3c18f00dfd4cbab2cd225468bbec01ced0d", func := "tappet/tappetlaw21.TickPlays", spec := "tickPlays", unfollowed := true, recurses := true, plainKeys := false, apart := false, narrowed := true }
def TickPlaysUptoSaid : Prop := tickPlaysUptoRow.holds Try.pinned (OpenSpec.upto tickPlaysSpec)

/-- 'tappetlaw21.TickNobody', WHERE WHAT IT READS IS OF BULK AT MOST 1048576: true; the input reads as it did. -/
def tickNobodyUptoRow : OpenClaim := { program := "ytopgfhcgfpceaaa", sum := "d6f1a74ad6d582e98df062f6ae8ef3c18f00dfd4cbab2cd225468bbec01ced0d", func := "tappet/tappetlaw21.TickNobody", spec := "tickNobody", unfollowed := true, recurses := true, plainKeys := false, apart := false, narrowed := true }
def TickNobodyUptoSaid : Prop := tickNobodyUptoRow.holds Try.pinned (OpenSpec.upto tickNobodySpec)

end Rows
end Go.Proofs.Ytopgfhcgfpceaaa
