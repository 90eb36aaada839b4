/-
  No cell of these rows narrows 'for every input' (looked for: loops, veiled, ifaces, maps, wideKeys, modest, calm, conditions, laid).
  DERIVED. THE GIVEN ROWS OF THIS SEAT. 16 by the template 'for every input the law returns true; each argument reads behind the call as it read before'; 0 by the template 'total and deterministic' (their statements: YtjpkccofeafkbaaGreatTotals.lean).
  GIVEN WITH THE SEED: the statements are not yours to turn. If you find one false, say at which input.
  Laid BY PROGRAM, IN A SANDBOX (cutbox-rows.mjs): the forced cells as the released guide's own fill.sh prints them over the translation f0f8b251522487c1… (all of the seat's roots in one cut). By AI agents, Wed Nov 11 2026. No macro, syntax, notation, axiom, sorry.
-/
import Derived.Test.YtjpkccofeafkbaaGreatChecked
import GoSem.Claim
import GoSem.ClaimJoined
import GoSem.ClaimMapViews
import Derived.JoinedTies
import Derived.KernelRfl
namespace Go.Proofs.YtjpkccofeafkbaaGreat
/- THE CELL 'sum', in the pinned program and in every row, IS THE sha256 OF THE DUMP (.gsa) THAT YtjpkccofeafkbaaGreatProg.lean LOADS. Nothing in Lean hashes anything: it is a label: what it is worth is what the hold of that sum in a sandbox is worth. -/
noncomputable def Tryz.pinned : Pinned := { name := "ytjpkccofeafkbaagreat", sum := "f0f8b251522487c19e5234276efb475bf2f76b354fcc808ee87c828f927cc01a", checked := Tryz.checked }
namespace Rows
def none {H : Type} : Left H := { results := [], args := [] }

/-- 'pursuivantlaw27.RibMakes': WHATEVER THE INPUT: true; the input reads as it did. -/
def ribMakesSpec : ChangeSpec := { name := "ribMakes", fn := fun _ => fun
  | [d] => { results := [.lit (.bool true)], args := [d] }
  | _ => none }
def ribMakesRow : OpenClaim := { program := "ytjpkccofeafkbaagreat", sum := "f0f8b251522487c19e5234276efb475bf2f76b354fcc808ee87c828f927cc01a", func := "pursuivant/pursuivantlaw27.RibMakes", spec := "ribMakes", inPlace := ["maps.clone", "slices.overlaps[uint32]", "slices.overlaps[pursuivant/api.Leg]"], unfollowed := true, recurses := true, plainKeys := false, apart := false }
def RibMakesSaid : Prop := ribMakesRow.holds Tryz.pinned (OpenSpec.ofChange ribMakesSpec)

/-- ITS FALSE NEIGHBOUR: 'it returns false'. Refute it at one input. -/
def ribMakesWrong : ChangeSpec := { name := "ribMakes", fn := fun _ => fun
  | [d] => { results := [.lit (.bool false)], args := [d] }
  | _ => none }
def RibMakesWrongFalsely : Prop := ribMakesRow.holds Tryz.pinned (OpenSpec.ofChange ribMakesWrong)

/-- 'pursuivantlaw26.RiboutSays': WHATEVER THE INPUT: true; the input reads as it did. -/
def riboutSaysSpec : ChangeSpec := { name := "riboutSays", fn := fun _ => fun
  | [d1, d2, d3, d4] => { results := [.lit (.bool true)], args := [d1, d2, d3, d4] }
  | _ => none }
def riboutSaysRow : OpenClaim := { program := "ytjpkccofeafkbaagreat", sum := "f0f8b251522487c19e5234276efb475bf2f76b354fcc808ee87c828f927cc01a", func := "pursuivant/pursuivantlaw26.RiboutSays", spec := "riboutSays", inPlace := ["slices.overlaps[uint32]", "slices.overlaps[pursuivant/api.Leg]"], unfollowed := true, recurses := true, plainKeys := false, apart := false }
def RiboutSaysSaid : Prop := riboutSaysRow.holds Tryz.pinned (OpenSpec.ofChange riboutSaysSpec)

/-- ITS FALSE NEIGHBOUR: 'it returns false'. Refute it at one input. -/
def riboutSaysWrong : ChangeSpec := { name := "riboutSays", fn := fun _ => fun
  | [d1, d2, d3, d4] => { results := [.lit (.bool false)], args := [d1, d2, d3, d4] }
  | _ => none }
def RiboutSaysWrongFalsely : Prop := riboutSaysRow.holds Tryz.pinned (OpenSpec.ofChange riboutSaysWrong)

/-- 'pursuivantlaw24.RibinLeaves': WHATEVER THE INPUT: true; the input reads as it did. -/
def ribinLeavesSpec : ChangeSpec := { name := "ribinLeaves", fn := fun _ => fun
  | [d1, d2, d3] => { results := [.lit (.bool true)], args := [d1, d2, d3] }
  | _ => none }
def ribinLeavesRow : OpenClaim := { program := "ytjpkccofeafkbaagreat", sum := "f0f8b251522487c19e5234276efb475bf2f76b354fcc808ee87c828f927cc01a", func := "pursuivant/pursuivantlaw24.RibinLeaves", spec := "ribinLeaves", inPlace := ["maps.clone", "slices.overlaps[uint32]", "slices.overlaps[pursuivant/api.Leg]"], unfollowed := true, recurses := true, plainKeys := false, apart := false }
def RibinLeavesSaid : Prop := ribinLeavesRow.holds Tryz.pinned (OpenSpec.ofChange ribinLeavesSpec)

/-- ITS FALSE NEIGHBOUR: 'it returns false'. Refute it at one input. -/
def ribinLeavesWrong : ChangeSpec := { name := "ribinLeaves", fn := fun _ => fun
  | [d1, d2, d3] => { results := [.lit (.bool false)], args := [d1, d2, d3] }
  | _ => none }
def RibinLeavesWrongFalsely : Prop := ribinLeavesRow.holds Tryz.pinned (OpenSpec.ofChange ribinLeavesWrong)

/-- 'pursuivantlaw24.RibinPlays': WHATEVER THE INPUT: true; the input reads as it did. -/
def ribinPlaysSpec : ChangeSpec := { name := "ribinPlays", fn := fun _ => fun
  | [d1, d2, d3, d4] => { results := [.lit (.bool true)], args := [d1, d2, d3, d4] }
  | _ => none }
def ribinPlaysRow : OpenClaim := { program := "ytjpkccofeafkbaagreat", sum := "f0f8b251522487c19e5234276efb475bf2f76b354fcc808ee87c828f927cc01a", func := "pursuivant/pursuivantlaw24.RibinPlays", spec := "ribinPlays", inPlace := ["maps.clone", "slices.overlaps[uint32]", "slices.overlaps[pursuivant/api.Leg]"], unfollowed := true, recurses := true, plainKeys := false, apart := false }
def RibinPlaysSaid : Prop := ribinPlaysRow.holds Tryz.pinned (OpenSpec.ofChange ribinPlaysSpec)

/-- ITS FALSE NEIGHBOUR: 'it returns false'. Refute it at one input. -/
def ribinPlaysWrong : ChangeSpec := { name := "ribinPlays", fn := fun _ => fun
  | [d1, d2, d3, d4] => { results := [.lit (.bool false)], args := [d1, d2, d3, d4] }
  | _ => none }
def RibinPlaysWrongFalsely : Prop := ribinPlaysRow.holds Tryz.pinned (OpenSpec.ofChange ribinPlaysWrong)

/-- 'pursuivantlaw24.RibinFull': WHATEVER THE INPUT: true; the input reads as it did. -/
def ribinFullSpec : ChangeSpec := { name := "ribinFull", fn := fun _ => fun
  | [d1, d2, d3] => { results := [.lit (.bool true)], args := [d1, d2, d3] }
  | _ => none }
def ribinFullRow : OpenClaim := { program := "ytjpkccofeafkbaagreat", sum := "f0f8b251522487c19e5234276efb475bf2f76b354fcc808ee87c828f927cc01a", func := "pursuivant/pursuivantlaw24.RibinFull", spec := "ribinFull", inPlace := ["maps.clone", "slices.overlaps[uint32]", "slices.overlaps[pursuivant/api.Leg]"], unfollowed := true, recurses := true, plainKeys := false, apart := false }
def RibinFullSaid : Prop := ribinFullRow.holds Tryz.pinned (OpenSpec.ofChange ribinFullSpec)

/-- ITS FALSE NEIGHBOUR: 'it returns false'. Refute it at one input. -/
def ribinFullWrong : ChangeSpec := { name := "ribinFull", fn := fun _ => fun
  | [d1, d2, d3] => { results := [.lit (.bool false)], args := [d1, d2, d3] }
  | _ => none }
def RibinFullWrongFalsely : Prop := ribinFullRow.holds Tryz.pinned (OpenSpec.ofChange ribinFullWrong)

/-- 'pursuivantlaw24.RibinAdds': WHATEVER THE INPUT: true; the input reads as it did. -/
def ribinAddsSpec : ChangeSpec := { name := "ribinAdds", fn := fun _ => fun
  | [d1, d2, d3] => { results := [.lit (.bool true)], args := [d1, d2, d3] }
  | _ => none }
def ribinAddsRow : OpenClaim := { program := "ytjpkccofeafkbaagreat", sum := "f0f8b251522487c19e5234276efb475bf2f76b354fcc808ee87c828f927cc01a", func := "pursuivant/pursuivantlaw24.RibinAdds", spec := "ribinAdds", inPlace := ["maps.clone", "slices.overlaps[uint32]", "slices.overlaps[pursuivant/api.Leg]"], unfollowed := true, recurses := true, plainKeys := false, apart := false }
def RibinAddsSaid : Prop := ribinAddsRow.holds Tryz.pinned (OpenSpec.ofChange ribinAddsSpec)

/-- ITS FALSE NEIGHBOUR: 'it returns false'. Refute it at one input. -/
def ribinAddsWrong : ChangeSpec := { name := "ribinAdds", fn := fun _ => fun
  | [d1, d2, d3] => { results := [.lit (.bool false)], args := [d1, d2, d3] }
  | _ => none }
def RibinAddsWrongFalsely : Prop := ribinAddsRow.holds Tryz.pinned (OpenSpec.ofChange ribinAddsWrong)

/-- 'pursuivantlaw27.RibCopies': WHATEVER THE INPUT: true; the input reads as it did. -/
def ribCopiesSpec : ChangeSpec := { name := "ribCopies", fn := fun _ => fun
  | [d1, d2, d3] => { results := [.lit (.bool true)], args := [d1, d2, d3] }
  | _ => none }
def ribCopiesRow : OpenClaim := { program := "ytjpkccofeafkbaagreat", sum := "f0f8b251522487c19e5234276efb475bf2f76b354fcc808ee87c828f927cc01a", func := "pursuivant/pursuivantlaw27.RibCopies", spec := "ribCopies", inPlace := ["maps.clone", "slices.overlaps[uint32]", "slices.overlaps[pursuivant/api.Leg]"], unfollowed := true, recurses := true, plainKeys := false, apart := false }
def RibCopiesSaid : Prop := ribCopiesRow.holds Tryz.pinned (OpenSpec.ofChange ribCopiesSpec)

/-- ITS FALSE NEIGHBOUR: 'it returns false'. Refute it at one input. -/
def ribCopiesWrong : ChangeSpec := { name := "ribCopies", fn := fun _ => fun
  | [d1, d2, d3] => { results := [.lit (.bool false)], args := [d1, d2, d3] }
  | _ => none }
def RibCopiesWrongFalsely : Prop := ribCopiesRow.holds Tryz.pinned (OpenSpec.ofChange ribCopiesWrong)

/-- 'pursuivantlaw26.RiboutPlays': WHATEVER THE INPUT: true; the input reads as it did. -/
def riboutPlaysSpec : ChangeSpec := { name := "riboutPlays", fn := fun _ => fun
  | [d1, d2, d3, d4] => { results := [.lit (.bool true)], args := [d1, d2, d3, d4] }
  | _ => none }
def riboutPlaysRow : OpenClaim := { program := "ytjpkccofeafkbaagreat", sum := "f0f8b251522487c19e5234276efb475bf2f76b354fcc808ee87c828f927cc01a", func := "pursuivant/pursuivantlaw26.RiboutPlays", spec := "riboutPlays", inPlace := ["slices.overlaps[uint32]", "slices.overlaps[pursuivant/api.Leg]", "maps.clone"], unfollowed := true, recurses := true, plainKeys := false, apart := false }
def RiboutPlaysSaid : Prop := riboutPlaysRow.holds Tryz.pinned (OpenSpec.ofChange riboutPlaysSpec)

/-- ITS FALSE NEIGHBOUR: 'it returns false'. Refute it at one input. -/
def riboutPlaysWrong : ChangeSpec := { name := "riboutPlays", fn := fun _ => fun
  | [d1, d2, d3, d4] => { results := [.lit (.bool false)], args := [d1, d2, d3, d4] }
  | _ => none }
def RiboutPlaysWrongFalsely : Prop := riboutPlaysRow.holds Tryz.pinned (OpenSpec.ofChange riboutPlaysWrong)

/-- 'pursuivantlaw26.RiboutMany': WHATEVER THE INPUT: true; the input reads as it did. -/
def riboutManySpec : ChangeSpec := { name := "riboutMany", fn := fun _ => fun
  | [d1, d2, d3] => { results := [.lit (.bool true)], args := [d1, d2, d3] }
  | _ => none }
def riboutManyRow : OpenClaim := { program := "ytjpkccofeafkbaagreat", sum := "f0f8b251522487c19e5234276efb475bf2f76b354fcc808ee87c828f927cc01a", func := "pursuivant/pursuivantlaw26.RiboutMany", spec := "riboutMany", inPlace := ["slices.overlaps[uint32]", "slices.overlaps[pursuivant/api.Leg]", "maps.clone"], unfollowed := true, recurses := true, plainKeys := false, apart := false }
def RiboutManySaid : Prop := riboutManyRow.holds Tryz.pinned (OpenSpec.ofChange riboutManySpec)

/-- ITS FALSE NEIGHBOUR: 'it returns false'. Refute it at one input. -/
def riboutManyWrong : ChangeSpec := { name := "riboutMany", fn := fun _ => fun
  | [d1, d2, d3] => { results := [.lit (.bool false)], args := [d1, d2, d3] }
  | _ => none }
def RiboutManyWrongFalsely : Prop := riboutManyRow.holds Tryz.pinned (OpenSpec.ofChange riboutManyWrong)

/-- 'pursuivantlaw24.RibinMakes': WHATEVER THE INPUT: true; the input reads as it did. -/
def ribinMakesSpec : ChangeSpec := { name := "ribinMakes", fn := fun _ => fun
  | [d1, d2, d3] => { results := [.lit (.bool true)], args := [d1, d2, d3] }
  | _ => none }
def ribinMakesRow : OpenClaim := { program := "ytjpkccofeafkbaagreat", sum := "f0f8b251522487c19e5234276efb475bf2f76b354fcc808ee87c828f927cc01a", func := "pursuivant/pursuivantlaw24.RibinMakes", spec := "ribinMakes", inPlace := ["maps.clone", "slices.overlaps[uint32]", "slices.overlaps[pursuivant/api.Leg]"], unfollowed := true, recurses := true, plainKeys := false, apart := false }
def RibinMakesSaid : Prop := ribinMakesRow.holds Tryz.pinned (OpenSpec.ofChange ribinMakesSpec)

/-- ITS FALSE NEIGHBOUR: 'it returns false'. Refute it at one input. -/
def ribinMakesWrong : ChangeSpec := { name := "ribinMakes", fn := fun _ => fun
  | [d1, d2, d3] => { results := [.lit (.bool false)], args := [d1, d2, d3] }
  | _ => none }
def RibinMakesWrongFalsely : Prop := ribinMakesRow.holds Tryz.pinned (OpenSpec.ofChange ribinMakesWrong)

/-- 'pursuivantlaw24.RibinCopies': WHATEVER THE INPUT: true; the input reads as it did. -/
def ribinCopiesSpec : ChangeSpec := { name := "ribinCopies", fn := fun _ => fun
  | [d1, d2, d3, d4, d5] => { results := [.lit (.bool true)], args := [d1, d2, d3, d4, d5] }
  | _ => none }
def ribinCopiesRow : OpenClaim := { program := "ytjpkccofeafkbaagreat", sum := "f0f8b251522487c19e5234276efb475bf2f76b354fcc808ee87c828f927cc01a", func := "pursuivant/pursuivantlaw24.RibinCopies", spec := "ribinCopies", inPlace := ["maps.clone", "slices.overlaps[uint32]", "slices.overlaps[pursuivant/api.Leg]"], unfollowed := true, recurses := true, plainKeys := false, apart := false }
def RibinCopiesSaid : Prop := ribinCopiesRow.holds Tryz.pinned (OpenSpec.ofChange ribinCopiesSpec)

/-- ITS FALSE NEIGHBOUR: 'it returns false'. Refute it at one input. -/
def ribinCopiesWrong : ChangeSpec := { name := "ribinCopies", fn := fun _ => fun
  | [d1, d2, d3, d4, d5] => { results := [.lit (.bool false)], args := [d1, d2, d3, d4, d5] }
  | _ => none }
def RibinCopiesWrongFalsely : Prop := ribinCopiesRow.holds Tryz.pinned (OpenSpec.ofChange ribinCopiesWrong)

/-- 'pursuivantlaw21.MsgRaws': WHATEVER THE INPUT: true; the input reads as it did. -/
def msgRawsSpec : ChangeSpec := { name := "msgRaws", fn := fun _ => fun
  | [d] => { results := [.lit (.bool true)], args := [d] }
  | _ => none }
def msgRawsRow : OpenClaim := { program := "ytjpkccofeafkbaagreat", sum := "f0f8b251522487c19e5234276efb475bf2f76b354fcc808ee87c828f927cc01a", func := "pursuivant/pursuivantlaw21.MsgRaws", spec := "msgRaws", unfollowed := true, recurses := true, plainKeys := false, apart := false }
def MsgRawsSaid : Prop := msgRawsRow.holds Tryz.pinned (OpenSpec.ofChange msgRawsSpec)

/-- ITS FALSE NEIGHBOUR: 'it returns false'. Refute it at one input. -/
def msgRawsWrong : ChangeSpec := { name := "msgRaws", fn := fun _ => fun
  | [d] => { results := [.lit (.bool false)], args := [d] }
  | _ => none }
def MsgRawsWrongFalsely : Prop := msgRawsRow.holds Tryz.pinned (OpenSpec.ofChange msgRawsWrong)

/-- 'pursuivantlaw21.MsgParses': WHATEVER THE INPUT: true; the input reads as it did. -/
def msgParsesSpec : ChangeSpec := { name := "msgParses", fn := fun _ => fun
  | [d1, d2] => { results := [.lit (.bool true)], args := [d1, d2] }
  | _ => none }
def msgParsesRow : OpenClaim := { program := "ytjpkccofeafkbaagreat", sum := "f0f8b251522487c19e5234276efb475bf2f76b354fcc808ee87c828f927cc01a", func := "pursuivant/pursuivantlaw21.MsgParses", spec := "msgParses", unfollowed := true, recurses := true, plainKeys := false, apart := false }
def MsgParsesSaid : Prop := msgParsesRow.holds Tryz.pinned (OpenSpec.ofChange msgParsesSpec)

/-- ITS FALSE NEIGHBOUR: 'it returns false'. Refute it at one input. -/
def msgParsesWrong : ChangeSpec := { name := "msgParses", fn := fun _ => fun
  | [d1, d2] => { results := [.lit (.bool false)], args := [d1, d2] }
  | _ => none }
def MsgParsesWrongFalsely : Prop := msgParsesRow.holds Tryz.pinned (OpenSpec.ofChange msgParsesWrong)

/-- 'pursuivantlaw21.MsgNotices': WHATEVER THE INPUT: true; the input reads as it did. -/
def msgNoticesSpec : ChangeSpec := { name := "msgNotices", fn := fun _ => fun
  | [d] => { results := [.lit (.bool true)], args := [d] }
  | _ => none }
def msgNoticesRow : OpenClaim := { program := "ytjpkccofeafkbaagreat", sum := "f0f8b251522487c19e5234276efb475bf2f76b354fcc808ee87c828f927cc01a", func := "pursuivant/pursuivantlaw21.MsgNotices", spec := "msgNotices", unfollowed := true, recurses := true, plainKeys := false, apart := false }
def MsgNoticesSaid : Prop := msgNoticesRow.holds Tryz.pinned (OpenSpec.ofChange msgNoticesSpec)

/-- ITS FALSE NEIGHBOUR: 'it returns false'. Refute it at one input. -/
def msgNoticesWrong : ChangeSpec := { name := "msgNotices", fn := fun _ => fun
  | [d] => { results := [.lit (.bool false)], args := [d] }
  | _ => none }
def MsgNoticesWrongFalsely : Prop := msgNoticesRow.holds Tryz.pinned (OpenSpec.ofChange msgNoticesWrong)

/-- 'pursuivantlaw21.MsgSame': WHATEVER THE INPUT: true; the input reads as it did. -/
def msgSameSpec : ChangeSpec := { name := "msgSame", fn := fun _ => fun
  | [d1, d2] => { results := [.lit (.bool true)], args := [d1, d2] }
  | _ => none }
def msgSameRow : OpenClaim := { program := "ytjpkccofeafkbaagreat", sum := "f0f8b251522487c19e5234276efb475bf2f76b354fcc808ee87c828f927cc01a", func := "pursuivant/pursuivantlaw21.MsgSame", spec := "msgSame", unfollowed := true, recurses := true, plainKeys := false, apart := false }
def MsgSameSaid : Prop := msgSameRow.holds Tryz.pinned (OpenSpec.ofChange msgSameSpec)

/-- ITS FALSE NEIGHBOUR: 'it returns false'. Refute it at one input. -/
def msgSameWrong : ChangeSpec := { name := "msgSame", fn := fun _ => fun
  | [d1, d2] => { results := [.lit (.bool false)], args := [d1, d2] }
  | _ => none }
def MsgSameWrongFalsely : Prop := msgSameRow.holds Tryz.pinned (OpenSpec.ofChange msgSameWrong)

/-- 'pursuivantlaw26.RiboutMakes': WHATEVER THE INPUT: true; the input reads as it did. -/
def riboutMakesSpec : ChangeSpec := { name := "riboutMakes", fn := fun _ => fun
  | [d1, d2, d3] => { results := [.lit (.bool true)], args := [d1, d2, d3] }
  | _ => none }
def riboutMakesRow : OpenClaim := { program := "ytjpkccofeafkbaagreat", sum := "f0f8b251522487c19e5234276efb475bf2f76b354fcc808ee87c828f927cc01a", func := "pursuivant/pursuivantlaw26.RiboutMakes", spec := "riboutMakes", inPlace := ["slices.overlaps[uint32]", "slices.overlaps[pursuivant/api.Leg]", "maps.clone"], unfollowed := true, recurses := true, plainKeys := false, apart := false }
def RiboutMakesSaid : Prop := riboutMakesRow.holds Tryz.pinned (OpenSpec.ofChange riboutMakesSpec)

/-- ITS FALSE NEIGHBOUR: 'it returns false'. Refute it at one input. -/
def riboutMakesWrong : ChangeSpec := { name := "riboutMakes", fn := fun _ => fun
  | [d1, d2, d3] => { results := [.lit (.bool false)], args := [d1, d2, d3] }
  | _ => none }
def RiboutMakesWrongFalsely : Prop := riboutMakesRow.holds Tryz.pinned (OpenSpec.ofChange riboutMakesWrong)

/- THE SECOND FORM. 'bulk': how many values and letters a reading holds, each counted each time it is reached (what is shared counts as often as it is met; a slice's spare places count too). A statement '..UptoSaid' is the law's where the arguments, and the package variables that the reading takes, are together of bulk at most 1048576: NARROWER than '..Said'. Prove '..Said' where nothing that the law and all that it calls make is longer than what came in: it says more and counts as full. Else prove '..UptoSaid'. A law counts once. -/
mutual
def uptoBulk {H : Type} : DataW H → Nat
  | .lit (.string bytes) => bytes.length + 1
  | .lit _ => 1
  | .nil => 1
  | .ptr d => uptoBulk d + 1
  | .slice elems spare => uptoBulkAll elems + uptoBulkAll spare + 1
  | .agg parts => uptoBulkAll parts + 1
  | .iface _ d => uptoBulk d + 1
  | .map entries => uptoBulkEntries entries + 1
  | .held _ => 1
def uptoBulkAll {H : Type} : List (DataW H) → Nat
  | [] => 0
  | d :: r => uptoBulk d + uptoBulkAll r
def uptoBulkEntries {H : Type} : List (Lit × DataW H) → Nat
  | [] => 0
  | x :: r => uptoBulkEntry x + uptoBulkEntries r
def uptoBulkEntry {H : Type} : Lit × DataW H → Nat
  | (.string bytes, d) => bytes.length + uptoBulk d + 1
  | (_, d) => uptoBulk d + 1
 end
def uptoSmall : (H : Type) → List (DataW H) → Bool := fun _ ds => decide (uptoBulkAll ds ≤ 1048576)
def OpenSpec.upto (s : _root_.Go.ChangeSpec) : _root_.Go.OpenSpec := { _root_.Go.OpenSpec.ofChange s with cond := some uptoSmall }

/-- 'pursuivantlaw27.RibMakes', WHERE WHAT IT READS IS OF BULK AT MOST 1048576: true; the input reads as it did. -/
def ribMakesUptoRow : OpenClaim := { program := "ytjpkccofeafkbaagreat", sum := "f0f8b251522487c19e5234276efb475bf2f76b354fcc808ee87c828f927cc01a", func := "pursuivant/pursuivantlaw27.RibMakes", spec := "ribMakes", inPlace := ["maps.clone", "slices.overlaps[uint32]", "slices.overlaps[pursuivant/api.Leg]"], unfollowed := true, recurses := true, plainKeys := false, apart := false, narrowed := true }
def RibMakesUptoSaid : Prop := ribMakesUptoRow.holds Tryz.pinned (OpenSpec.upto ribMakesSpec)

/-- 'pursuivantlaw26.RiboutSays', WHERE WHAT IT READS IS OF BULK AT MOST 1048576: true; the input reads as it did. -/
def riboutSaysUptoRow : OpenClaim := { program := "ytjpkccofeafkbaagreat", sum := "f0f8b251522487c19e5234276efb475bf2f76b354fcc808ee87c828f927cc01a", func := "pursuivant/pursuivantlaw26.RiboutSays", spec := "riboutSays", inPlace := ["slices.overlaps[uint32]", "slices.overlaps[pursuivant/api.Leg]"], unfollowed := true, recurses := true, plainKeys := false, apart := false, narrowed := true }
def RiboutSaysUptoSaid : Prop := riboutSaysUptoRow.holds Tryz.pinned (OpenSpec.upto riboutSaysSpec)

/-- 'pursuivantlaw24.RibinLeaves', WHERE WHAT IT READS IS OF BULK AT MOST 1048576: true; the input reads as it did. -/
def ribinLeavesUptoRow : OpenClaim := { program := "ytjpkccofeafkbaagreat", sum := "f0f8b251522487c19e5234276efb475bf2f76b354fcc808ee87c828f927cc01a", func := "pursuivant/pursuivantlaw24.RibinLeaves", spec := "ribinLeaves", inPlace := ["maps.clone", "slices.overlaps[uint32]", "slices.overlaps[pursuivant/api.Leg]"], unfollowed := true, recurses := true, plainKeys := false, apart := false, narrowed := true }
def RibinLeavesUptoSaid : Prop := ribinLeavesUptoRow.holds Tryz.pinned (OpenSpec.upto ribinLeavesSpec)

/-- 'pursuivantlaw24.RibinPlays', WHERE WHAT IT READS IS OF BULK AT MOST 1048576: true; the input reads as it did. -/
def ribinPlaysUptoRow : OpenClaim := { program := "ytjpkccofeafkbaagreat", sum := "f0f8b251522487c19e5234276efb475bf2f76b354fcc808ee87c828f927cc01a", func := "pursuivant/pursuivantlaw24.RibinPlays", spec := "ribinPlays", inPlace := ["maps.clone", "slices.overlaps[uint32]", "slices.overlaps[pursuivant/api.Leg]"], unfollowed := true, recurses := true, plainKeys := false, apart := false, narrowed := true }
def RibinPlaysUptoSaid : Prop := ribinPlaysUptoRow.holds Tryz.pinned (OpenSpec.upto ribinPlaysSpec)

/-- 'pursuivantlaw24.RibinFull', WHERE WHAT IT READS IS OF BULK AT MOST 1048576: true; the input reads as it did. -/
def ribinFullUptoRow : OpenClaim := { program := "ytjpkccofeafkbaagreat", sum := "f0f8b251522487c19e5234276efb475bf2f76b354fcc808ee87c828f927cc01a", func := "pursuivant/pursuivantlaw24.RibinFull", spec := "ribinFull", inPlace := ["maps.clone", "slices.overlaps[uint32]", "slices.overlaps[pursuivant/api.Leg]"], unfollowed := true, recurses := true, plainKeys := false, apart := false, narrowed := true }
def RibinFullUptoSaid : Prop := ribinFullUptoRow.holds Tryz.pinned (OpenSpec.upto ribinFullSpec)

/-- 'pursuivantlaw24.RibinAdds', WHERE WHAT IT READS IS OF BULK AT MOST 1048576: true; the input reads as it did. -/
def ribinAddsUptoRow : OpenClaim := { program := "ytjpkccofeafkbaagreat", sum := "f0f8b251522487c19e5234276efb475bf2f76b354fcc808ee87c828f927cc01a", func := "pursuivant/pursuivantlaw24.RibinAdds", spec := "ribinAdds", inPlace := ["maps.clone", "slices.overlaps[uint32]", "slices.overlaps[pursuivant/api.Leg]"], unfollowed := true, recurses := true, plainKeys := false, apart := false, narrowed := true }
def RibinAddsUptoSaid : Prop := ribinAddsUptoRow.holds Tryz.pinned (OpenSpec.upto ribinAddsSpec)

/-- 'pursuivantlaw27.RibCopies', WHERE WHAT IT READS IS OF BULK AT MOST 1048576: true; the input reads as it did. -/
def ribCopiesUptoRow : OpenClaim := { program := "ytjpkccofeafkbaagreat", sum := "f0f8b251522487c19e5234276efb475bf2f76b354fcc808ee87c828f927cc01a", func := "pursuivant/pursuivantlaw27.RibCopies", spec := "ribCopies", inPlace := ["maps.clone", "slices.overlaps[uint32]", "slices.overlaps[pursuivant/api.Leg]"], unfollowed := true, recurses := true, plainKeys := false, apart := false, narrowed := true }
def RibCopiesUptoSaid : Prop := ribCopiesUptoRow.holds Tryz.pinned (OpenSpec.upto ribCopiesSpec)

/-- 'pursuivantlaw26.RiboutPlays', WHERE WHAT IT READS IS OF BULK AT MOST 1048576: true; the input reads as it did. -/
def riboutPlaysUptoRow : OpenClaim := { program := "ytjpkccofeafkbaagreat", sum := "f0f8b251522487c19e5234276efb475bf2f76b354fcc808ee87c828f927cc01a", func := "pursuivant/pursuivantlaw26.RiboutPlays", spec := "riboutPlays", inPlace := ["slices.overlaps[uint32]", "slices.overlaps[pursuivant/api.Leg]", "maps.clone"], unfollowed := true, recurses := true, plainKeys := false, apart := false, narrowed := true }
def RiboutPlaysUptoSaid : Prop := riboutPlaysUptoRow.holds Tryz.pinned (OpenSpec.upto riboutPlaysSpec)

/-- 'pursuivantlaw26.RiboutMany', WHERE WHAT IT READS IS OF BULK AT MOST 1048576: true; the input reads as it did. -/
def riboutManyUptoRow : OpenClaim := { program := "ytjpkccofeafkbaagreat", sum := "f0f8b251522487c19e5234276efb475bf2f76b354fcc808ee87c828f927cc01a", func := "pursuivant/pursuivantlaw26.RiboutMany", spec := "riboutMany", inPlace := ["slices.overlaps[uint32]", "slices.overlaps[pursuivant/api.Leg]", "maps.clone"], unfollowed := true, recurses := true, plainKeys := false, apart := false, narrowed := true }
def RiboutManyUptoSaid : Prop := riboutManyUptoRow.holds Tryz.pinned (OpenSpec.upto riboutManySpec)

/-- 'pursuivantlaw24.RibinMakes', WHERE WHAT IT READS IS OF BULK AT MOST 1048576: true; the input reads as it did. -/
def ribinMakesUptoRow : OpenClaim := { program := "ytjpkccofeafkbaagreat", sum := "f0f8b251522487c19e5234276efb475bf2f76b354fcc808ee87c828f927cc01a", func := "pursuivant/pursuivantlaw24.RibinMakes", spec := "ribinMakes", inPlace := ["maps.clone", "slices.overlaps[uint32]", "slices.overlaps[pursuivant/api.Leg]"], unfollowed := true, recurses := true, plainKeys := false, apart := false, narrowed := true }
def RibinMakesUptoSaid : Prop := ribinMakesUptoRow.holds Tryz.pinned (OpenSpec.upto ribinMakesSpec)

/-- 'pursuivantlaw24.RibinCopies', WHERE WHAT IT READS IS OF BULK AT MOST 1048576: true; the input reads as it did. -/
def ribinCopiesUptoRow : OpenClaim := { program := "ytjpkccofeafkbaagreat", sum := "f0f8b251522487c19e5234276efb475bf2f76b354fcc808ee87c828f927cc01a", func := "pursuivant/pursuivantlaw24.RibinCopies", spec := "ribinCopies", inPlace := ["maps.clone", "slices.overlaps[uint32]", "slices.overlaps[pursuivant/api.Leg]"], unfollowed := true, recurses := true, plainKeys := false, apart := false, narrowed := true }
def RibinCopiesUptoSaid : Prop := ribinCopiesUptoRow.holds Tryz.pinned (OpenSpec.upto ribinCopiesSpec)

/-- 'pursuivantlaw21.MsgRaws', WHERE WHAT IT READS IS OF BULK AT MOST 1048576: true; the input reads as it did. -/
def msgRawsUptoRow : OpenClaim := { program := "ytjpkccofeafkbaagreat", sum := "f0f8b251522487c19e5234276efb475bf2f76b354fcc808ee87c828f927cc01a", func := "pursuivant/pursuivantlaw21.MsgRaws", spec := "msgRaws", unfollowed := true, recurses := true, plainKeys := false, apart := false, narrowed := true }
def MsgRawsUptoSaid : Prop := msgRawsUptoRow.holds Tryz.pinned (OpenSpec.upto msgRawsSpec)

/-- 'pursuivantlaw21.MsgParses', WHERE WHAT IT READS IS OF BULK AT MOST 1048576: true; the input reads as it did. -/
def msgParsesUptoRow : OpenClaim := { program := "ytjpkccofeafkbaagreat", sum := "f0f8b251522487c19e5234276efb475bf2f76b354fcc808ee87c828f927cc01a", func := "pursuivant/pursuivantlaw21.MsgParses", spec := "msgParses", unfollowed := true, recurses := true, plainKeys := false, apart := false, narrowed := true }
def MsgParsesUptoSaid : Prop := msgParsesUptoRow.holds Tryz.pinned (OpenSpec.upto msgParsesSpec)

/-- 'pursuivantlaw21.MsgNotices', WHERE WHAT IT READS IS OF BULK AT MOST 1048576: true; the input reads as it did. -/
def msgNoticesUptoRow : OpenClaim := { program := "ytjpkccofeafkbaagreat", sum := "f0f8b251522487c19e5234276efb475bf2f76b354fcc808ee87c828f927cc01a", func := "pursuivant/pursuivantlaw21.MsgNotices", spec := "msgNotices", unfollowed := true, recurses := true, plainKeys := false, apart := false, narrowed := true }
def MsgNoticesUptoSaid : Prop := msgNoticesUptoRow.holds Tryz.pinned (OpenSpec.upto msgNoticesSpec)

/-- 'pursuivantlaw21.MsgSame', WHERE WHAT IT READS IS OF BULK AT MOST 1048576: true; the input reads as it did. -/
def msgSameUptoRow : OpenClaim := { program := "ytjpkccofeafkbaagreat", sum := "f0f8b251522487c19e5234276efb475bf2f76b354fcc808ee87c828f927cc01a", func := "pursuivant/pursuivantlaw21.MsgSame", spec := "msgSame", unfollowed := true, recurses := true, plainKeys := false, apart := false, narrowed := true }
def MsgSameUptoSaid : Prop := msgSameUptoRow.holds Tryz.pinned (OpenSpec.upto msgSameSpec)

/-- 'pursuivantlaw26.RiboutMakes', WHERE WHAT IT READS IS OF BULK AT MOST 1048576: true; the input reads as it did. -/
def riboutMakesUptoRow : OpenClaim := { program := "ytjpkccofeafkbaagreat", sum := "f0f8b251522487c19e5234276efb475bf2f76b354fcc808ee87c828f927cc01a", func := "pursuivant/pursuivantlaw26.RiboutMakes", spec := "riboutMakes", inPlace := ["slices.overlaps[uint32]", "slices.overlaps[pursuivant/api.Leg]", "maps.clone"], unfollowed := true, recurses := true, plainKeys := false, apart := false, narrowed := true }
def RiboutMakesUptoSaid : Prop := riboutMakesUptoRow.holds Tryz.pinned (OpenSpec.upto riboutMakesSpec)

end Rows
end Go.Proofs.YtjpkccofeafkbaaGreat
