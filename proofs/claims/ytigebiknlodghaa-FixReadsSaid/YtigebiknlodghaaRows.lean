/-
  No cell of these rows narrows 'for every input' (looked for: loops, veiled, ifaces, maps, wideKeys, modest, calm, conditions, laid).
  DERIVED. THE GIVEN ROWS OF THIS SEAT. 10 by the template 'for every input the law returns true; each argument reads behind the call as it read before'; 0 by the template 'total and deterministic' (their statements: YtigebiknlodghaaTotals.lean).
  GIVEN WITH THE SEED: the statements are not yours to turn. If you find one false, say at which input.
  Laid BY PROGRAM, IN A SANDBOX (cutbox-rows.mjs): the forced cells as the released guide's own fill.sh prints them over the translation 76f688ec2770b79e… (all of the seat's roots in one cut). By AI agents, Wed Nov 11 2026. No macro, syntax, notation, axiom, sorry.
-/
import Derived.Test.YtigebiknlodghaaChecked
import GoSem.Claim
import GoSem.ClaimJoined
import GoSem.ClaimMapViews
import Derived.JoinedTies
import Derived.KernelRfl
namespace Go.Proofs.Ytigebiknlodghaa
/- THE CELL 'sum', in the pinned program and in every row, IS THE sha256 OF THE DUMP (.gsa) THAT YtigebiknlodghaaProg.lean LOADS. Nothing in Lean hashes anything: it is a label: what it is worth is what the hold of that sum in a sandbox is worth. -/
noncomputable def Try.pinned : Pinned := { name := "ytigebiknlodghaa", sum := "76f688ec2770b79e07e076add86ea9b5239141387490bcfe63b94e23dd3a8da8", checked := Try.checked }
namespace Rows
def none {H : Type} : Left H := { results := [], args := [] }

/-- 'yesteryearlaw07.RingApart': WHATEVER THE INPUT: true; the input reads as it did. -/
def ringApartSpec : ChangeSpec := { name := "ringApart", fn := fun _ => fun
  | [d1, d2] => { results := [.lit (.bool true)], args := [d1, d2] }
  | _ => none }
def ringApartRow : OpenClaim := { program := "ytigebiknlodghaa", sum := "76f688ec2770b79e07e076add86ea9b5239141387490bcfe63b94e23dd3a8da8", func := "yesteryear/yesteryearlaw07.RingApart", spec := "ringApart", apart := false }
def RingApartSaid : Prop := ringApartRow.holds Try.pinned (OpenSpec.ofChange ringApartSpec)

/-- ITS FALSE NEIGHBOUR: 'it returns false'. Refute it at one input. -/
def ringApartWrong : ChangeSpec := { name := "ringApart", fn := fun _ => fun
  | [d1, d2] => { results := [.lit (.bool false)], args := [d1, d2] }
  | _ => none }
def RingApartWrongFalsely : Prop := ringApartRow.holds Try.pinned (OpenSpec.ofChange ringApartWrong)

/-- 'yesteryearlaw07.RingPlaces': WHATEVER THE INPUT: true; the input reads as it did. -/
def ringPlacesSpec : ChangeSpec := { name := "ringPlaces", fn := fun _ => fun
  | [d1, d2, d3] => { results := [.lit (.bool true)], args := [d1, d2, d3] }
  | _ => none }
def ringPlacesRow : OpenClaim := { program := "ytigebiknlodghaa", sum := "76f688ec2770b79e07e076add86ea9b5239141387490bcfe63b94e23dd3a8da8", func := "yesteryear/yesteryearlaw07.RingPlaces", spec := "ringPlaces", apart := false }
def RingPlacesSaid : Prop := ringPlacesRow.holds Try.pinned (OpenSpec.ofChange ringPlacesSpec)

/-- ITS FALSE NEIGHBOUR: 'it returns false'. Refute it at one input. -/
def ringPlacesWrong : ChangeSpec := { name := "ringPlaces", fn := fun _ => fun
  | [d1, d2, d3] => { results := [.lit (.bool false)], args := [d1, d2, d3] }
  | _ => none }
def RingPlacesWrongFalsely : Prop := ringPlacesRow.holds Try.pinned (OpenSpec.ofChange ringPlacesWrong)

/-- 'yesteryearlaw07.RingRoom': WHATEVER THE INPUT: true; the input reads as it did. -/
def ringRoomSpec : ChangeSpec := { name := "ringRoom", fn := fun _ => fun
  | [d1, d2, d3] => { results := [.lit (.bool true)], args := [d1, d2, d3] }
  | _ => none }
def ringRoomRow : OpenClaim := { program := "ytigebiknlodghaa", sum := "76f688ec2770b79e07e076add86ea9b5239141387490bcfe63b94e23dd3a8da8", func := "yesteryear/yesteryearlaw07.RingRoom", spec := "ringRoom", apart := false }
def RingRoomSaid : Prop := ringRoomRow.holds Try.pinned (OpenSpec.ofChange ringRoomSpec)

/-- ITS FALSE NEIGHBOUR: 'it returns false'. Refute it at one input. -/
def ringRoomWrong : ChangeSpec := { name := "ringRoom", fn := fun _ => fun
  | [d1, d2, d3] => { results := [.lit (.bool false)], args := [d1, d2, d3] }
  | _ => none }
def RingRoomWrongFalsely : Prop := ringRoomRow.holds Try.pinned (OpenSpec.ofChange ringRoomWrong)

/-- 'yesteryearlaw02.CrcSums': WHATEVER THE INPUT: true; the input reads as it did. -/
def crcSumsSpec : ChangeSpec := { name := "crcSums", fn := fun _ => fun
  | [d] => { results := [.lit (.bool true)], args := [d] }
  | _ => none }
def crcSumsRow : OpenClaim := { program := "ytigebiknlodghaa", sum := "76f688ec2770b79e07e076add86ea9b5239141387490bcfe63b94e23dd3a8da8", func := "yesteryear/yesteryearlaw02.CrcSums", spec := "crcSums", unfollowed := true, recurses := true, apart := false }
def CrcSumsSaid : Prop := crcSumsRow.holds Try.pinned (OpenSpec.ofChange crcSumsSpec)

/-- ITS FALSE NEIGHBOUR: 'it returns false'. Refute it at one input. -/
def crcSumsWrong : ChangeSpec := { name := "crcSums", fn := fun _ => fun
  | [d] => { results := [.lit (.bool false)], args := [d] }
  | _ => none }
def CrcSumsWrongFalsely : Prop := crcSumsRow.holds Try.pinned (OpenSpec.ofChange crcSumsWrong)

/-- 'yesteryearlaw02.CrcOne': WHATEVER THE INPUT: true; the input reads as it did. -/
def crcOneSpec : ChangeSpec := { name := "crcOne", fn := fun _ => fun
  | [d1, d2, d3] => { results := [.lit (.bool true)], args := [d1, d2, d3] }
  | _ => none }
def crcOneRow : OpenClaim := { program := "ytigebiknlodghaa", sum := "76f688ec2770b79e07e076add86ea9b5239141387490bcfe63b94e23dd3a8da8", func := "yesteryear/yesteryearlaw02.CrcOne", spec := "crcOne", unfollowed := true, recurses := true, apart := false }
def CrcOneSaid : Prop := crcOneRow.holds Try.pinned (OpenSpec.ofChange crcOneSpec)

/-- ITS FALSE NEIGHBOUR: 'it returns false'. Refute it at one input. -/
def crcOneWrong : ChangeSpec := { name := "crcOne", fn := fun _ => fun
  | [d1, d2, d3] => { results := [.lit (.bool false)], args := [d1, d2, d3] }
  | _ => none }
def CrcOneWrongFalsely : Prop := crcOneRow.holds Try.pinned (OpenSpec.ofChange crcOneWrong)

/-- 'yesteryearlaw09.RleShort': WHATEVER THE INPUT: true; the input reads as it did. -/
def rleShortSpec : ChangeSpec := { name := "rleShort", fn := fun _ => fun
  | [d1, d2] => { results := [.lit (.bool true)], args := [d1, d2] }
  | _ => none }
def rleShortRow : OpenClaim := { program := "ytigebiknlodghaa", sum := "76f688ec2770b79e07e076add86ea9b5239141387490bcfe63b94e23dd3a8da8", func := "yesteryear/yesteryearlaw09.RleShort", spec := "rleShort", apart := false }
def RleShortSaid : Prop := rleShortRow.holds Try.pinned (OpenSpec.ofChange rleShortSpec)

/-- ITS FALSE NEIGHBOUR: 'it returns false'. Refute it at one input. -/
def rleShortWrong : ChangeSpec := { name := "rleShort", fn := fun _ => fun
  | [d1, d2] => { results := [.lit (.bool false)], args := [d1, d2] }
  | _ => none }
def RleShortWrongFalsely : Prop := rleShortRow.holds Try.pinned (OpenSpec.ofChange rleShortWrong)

/-- 'yesteryearlaw02.CrcZeros': WHATEVER THE INPUT: true; the input reads as it did. -/
def crcZerosSpec : ChangeSpec := { name := "crcZeros", fn := fun _ => fun
  | [d1, d2] => { results := [.lit (.bool true)], args := [d1, d2] }
  | _ => none }
def crcZerosRow : OpenClaim := { program := "ytigebiknlodghaa", sum := "76f688ec2770b79e07e076add86ea9b5239141387490bcfe63b94e23dd3a8da8", func := "yesteryear/yesteryearlaw02.CrcZeros", spec := "crcZeros", unfollowed := true, recurses := true, apart := false }
def CrcZerosSaid : Prop := crcZerosRow.holds Try.pinned (OpenSpec.ofChange crcZerosSpec)

/-- ITS FALSE NEIGHBOUR: 'it returns false'. Refute it at one input. -/
def crcZerosWrong : ChangeSpec := { name := "crcZeros", fn := fun _ => fun
  | [d1, d2] => { results := [.lit (.bool false)], args := [d1, d2] }
  | _ => none }
def CrcZerosWrongFalsely : Prop := crcZerosRow.holds Try.pinned (OpenSpec.ofChange crcZerosWrong)

/-- 'yesteryearlaw01.FixReads': WHATEVER THE INPUT: true; the input reads as it did. -/
def fixReadsSpec : ChangeSpec := { name := "fixReads", fn := fun _ => fun
  | [d1, d2] => { results := [.lit (.bool true)], args := [d1, d2] }
  | _ => none }
def fixReadsRow : OpenClaim := { program := "ytigebiknlodghaa", sum := "76f688ec2770b79e07e076add86ea9b5239141387490bcfe63b94e23dd3a8da8", func := "yesteryear/yesteryearlaw01.FixReads", spec := "fixReads", apart := false }
def FixReadsSaid : Prop := fixReadsRow.holds Try.pinned (OpenSpec.ofChange fixReadsSpec)

/-- ITS FALSE NEIGHBOUR: 'it returns false'. Refute it at one input. -/
def fixReadsWrong : ChangeSpec := { name := "fixReads", fn := fun _ => fun
  | [d1, d2] => { results := [.lit (.bool false)], args := [d1, d2] }
  | _ => none }
def FixReadsWrongFalsely : Prop := fixReadsRow.holds Try.pinned (OpenSpec.ofChange fixReadsWrong)

/-- 'yesteryearlaw09.RlePacks': WHATEVER THE INPUT: true; the input reads as it did. -/
def rlePacksSpec : ChangeSpec := { name := "rlePacks", fn := fun _ => fun
  | [d1, d2] => { results := [.lit (.bool true)], args := [d1, d2] }
  | _ => none }
def rlePacksRow : OpenClaim := { program := "ytigebiknlodghaa", sum := "76f688ec2770b79e07e076add86ea9b5239141387490bcfe63b94e23dd3a8da8", func := "yesteryear/yesteryearlaw09.RlePacks", spec := "rlePacks", apart := false }
def RlePacksSaid : Prop := rlePacksRow.holds Try.pinned (OpenSpec.ofChange rlePacksSpec)

/-- ITS FALSE NEIGHBOUR: 'it returns false'. Refute it at one input. -/
def rlePacksWrong : ChangeSpec := { name := "rlePacks", fn := fun _ => fun
  | [d1, d2] => { results := [.lit (.bool false)], args := [d1, d2] }
  | _ => none }
def RlePacksWrongFalsely : Prop := rlePacksRow.holds Try.pinned (OpenSpec.ofChange rlePacksWrong)

/-- 'yesteryearlaw09.RleUnpacks': WHATEVER THE INPUT: true; the input reads as it did. -/
def rleUnpacksSpec : ChangeSpec := { name := "rleUnpacks", fn := fun _ => fun
  | [d1, d2] => { results := [.lit (.bool true)], args := [d1, d2] }
  | _ => none }
def rleUnpacksRow : OpenClaim := { program := "ytigebiknlodghaa", sum := "76f688ec2770b79e07e076add86ea9b5239141387490bcfe63b94e23dd3a8da8", func := "yesteryear/yesteryearlaw09.RleUnpacks", spec := "rleUnpacks", apart := false }
def RleUnpacksSaid : Prop := rleUnpacksRow.holds Try.pinned (OpenSpec.ofChange rleUnpacksSpec)

/-- ITS FALSE NEIGHBOUR: 'it returns false'. Refute it at one input. -/
def rleUnpacksWrong : ChangeSpec := { name := "rleUnpacks", fn := fun _ => fun
  | [d1, d2] => { results := [.lit (.bool false)], args := [d1, d2] }
  | _ => none }
def RleUnpacksWrongFalsely : Prop := rleUnpacksRow.holds Try.pinned (OpenSpec.ofChange rleUnpacksWrong)

/- THE SECOND FORM. 'bulk': how many values and letters a reading holds, each counted each time it is reached (what is shared counts as often as it is met; a slice's spare places count too). A statement '..UptoSaid' is the law's where the arguments, and the package variables that the reading takes, are together of bulk at most 1048576: NARROWER than '..Said'. Prove '..Said' where nothing that the law and all that it calls make is longer than what came in: it says more and counts as full. Else prove '..UptoSaid'. A law counts once. -/
mutual
def uptoBulk {H : Type} : DataW H → Nat
  | .lit (.string bytes) => bytes.length + 1
  | .lit _ => 1
  | .nil => 1
  | .ptr d => uptoBulk d + 1
  | .slice elems spare => uptoBulkAll elems + uptoBulkAll spare + 1
  | .agg parts => uptoBulkAll parts + 1
  | .iface _ d => uptoBulk d + 1
  | .map entries => uptoBulkEntries entries + 1
  | .held _ => 1
def uptoBulkAll {H : Type} : List (DataW H) → Nat
  | [] => 0
  | d :: r => uptoBulk d + uptoBulkAll r
def uptoBulkEntries {H : Type} : List (Lit × DataW H) → Nat
  | [] => 0
  | x :: r => uptoBulkEntry x + uptoBulkEntries r
def uptoBulkEntry {H : Type} : Lit × DataW H → Nat
  | (.string bytes, d) => bytes.length + uptoBulk d + 1
  | (_, d) => uptoBulk d + 1
 end
def uptoSmall : (H : Type) → List (DataW H) → Bool := fun _ ds => decide (uptoBulkAll ds ≤ 1048576)
def OpenSpec.upto (s : _root_.Go.ChangeSpec) : _root_.Go.OpenSpec := { _root_.Go.OpenSpec.ofChange s with cond := some uptoSmall }

/-- 'yesteryearlaw07.RingApart', WHERE WHAT IT READS IS OF BULK AT MOST 1048576: true; the input reads as it did. -/
def ringApartUptoRow : OpenClaim := { program := "ytigebiknlodghaa", sum := "76f688ec2770b79e07e076add86ea9b5239141387490bcfe63b94e23dd3a8da8", func := "yesteryear/yesteryearlaw07.RingApart", spec := "ringApart", apart := false, narrowed := true }
def RingApartUptoSaid : Prop := ringApartUptoRow.holds Try.pinned (OpenSpec.upto ringApartSpec)

/-- 'yesteryearlaw07.RingPlaces', WHERE WHAT IT READS IS OF BULK AT MOST 1048576: true; the input reads as it did. -/
def ringPlacesUptoRow : OpenClaim := { program := "ytigebiknlodghaa", sum := "76f688ec2770b79e07e076add86ea9b5239141387490bcfe63b94e23dd3a8da8", func := "yesteryear/yesteryearlaw07.RingPlaces", spec := "ringPlaces", apart := false, narrowed := true }
def RingPlacesUptoSaid : Prop := ringPlacesUptoRow.holds Try.pinned (OpenSpec.upto ringPlacesSpec)

/-- 'yesteryearlaw07.RingRoom', WHERE WHAT IT READS IS OF BULK AT MOST 1048576: true; the input reads as it did. -/
def ringRoomUptoRow : OpenClaim := { program := "ytigebiknlodghaa", sum := "76f688ec2770b79e07e076add86ea9b5239141387490bcfe63b94e23dd3a8da8", func := "yesteryear/yesteryearlaw07.RingRoom", spec := "ringRoom", apart := false, narrowed := true }
def RingRoomUptoSaid : Prop := ringRoomUptoRow.holds Try.pinned (OpenSpec.upto ringRoomSpec)

/-- 'yesteryearlaw02.CrcSums', WHERE WHAT IT READS IS OF BULK AT MOST 1048576: true; the input reads as it did. -/
def crcSumsUptoRow : OpenClaim := { program := "ytigebiknlodghaa", sum := "76f688ec2770b79e07e076add86ea9b5239141387490bcfe63b94e23dd3a8da8", func := "yesteryear/yesteryearlaw02.CrcSums", spec := "crcSums", unfollowed := true, recurses := true, apart := false, narrowed := true }
def CrcSumsUptoSaid : Prop := crcSumsUptoRow.holds Try.pinned (OpenSpec.upto crcSumsSpec)

/-- 'yesteryearlaw02.CrcOne', WHERE WHAT IT READS IS OF BULK AT MOST 1048576: true; the input reads as it did. -/
def crcOneUptoRow : OpenClaim := { program := "ytigebiknlodghaa", sum := "76f688ec2770b79e07e076add86ea9b5239141387490bcfe63b94e23dd3a8da8", func := "yesteryear/yesteryearlaw02.CrcOne", spec := "crcOne", unfollowed := true, recurses := true, apart := false, narrowed := true }
def CrcOneUptoSaid : Prop := crcOneUptoRow.holds Try.pinned (OpenSpec.upto crcOneSpec)

/-- 'yesteryearlaw09.RleShort', WHERE WHAT IT READS IS OF BULK AT MOST 1048576: true; the input reads as it did. -/
def rleShortUptoRow : OpenClaim := { program := "ytigebiknlodghaa", sum := "76f688ec2770b79e07e076add86ea9b5239141387490bcfe63b94e23dd3a8da8", func := "yesteryear/yesteryearlaw09.RleShort", spec := "rleShort", apart := false, narrowed := true }
def RleShortUptoSaid : Prop := rleShortUptoRow.holds Try.pinned (OpenSpec.upto rleShortSpec)

/-- 'yesteryearlaw02.CrcZeros', WHERE WHAT IT READS IS OF BULK AT MOST 1048576: true; the input reads as it did. -/
def crcZerosUptoRow : OpenClaim := { program := "ytigebiknlodghaa", sum := "76f688ec2770b79e07e076add86ea9b5239141387490bcfe63b94e23dd3a8da8", func := "yesteryear/yesteryearlaw02.CrcZeros", spec := "crcZeros", unfollowed := true, recurses := true, apart := false, narrowed := true }
def CrcZerosUptoSaid : Prop := crcZerosUptoRow.holds Try.pinned (OpenSpec.upto crcZerosSpec)

/-- 'yesteryearlaw01.FixReads', WHERE WHAT IT READS IS OF BULK AT MOST 1048576: true; the input reads as it did. -/
def fixReadsUptoRow : OpenClaim := { program := "ytigebiknlodghaa", sum := "76f688ec2770b79e07e076add86ea9b5239141387490bcfe63b94e23dd3a8da8", func := "yesteryear/yesteryearlaw01.FixReads", spec := "fixReads", apart := false, narrowed := true }
def FixReadsUptoSaid : Prop := fixReadsUptoRow.holds Try.pinned (OpenSpec.upto fixReadsSpec)

/-- 'yesteryearlaw09.RlePacks', WHERE WHAT IT READS IS OF BULK AT MOST 1048576: true; the input reads as it did. -/
def rlePacksUptoRow : OpenClaim := { program := "ytigebiknlodghaa", sum := "76f688ec2770b79e07e076add86ea9b5239141387490bcfe63b94e23dd3a8da8", func := "yesteryear/yesteryearlaw09.RlePacks", spec := "rlePacks", apart := false, narrowed := true }
def RlePacksUptoSaid : Prop := rlePacksUptoRow.holds Try.pinned (OpenSpec.upto rlePacksSpec)

/-- 'yesteryearlaw09.RleUnpacks', WHERE WHAT IT READS IS OF BULK AT MOST 1048576: true; the input reads as it did. -/
def rleUnpacksUptoRow : OpenClaim := { program := "ytigebiknlodghaa", sum := "76f688ec2770b79e07e076add86ea9b5239141387490bcfe63b94e23dd3a8da8", func := "yesteryear/yesteryearlaw09.RleUnpacks", spec := "rleUnpacks", apart := false, narrowed := true }
def RleUnpacksUptoSaid : Prop := rleUnpacksUptoRow.holds Try.pinned (OpenSpec.upto rleUnpacksSpec)

end Rows
end Go.Proofs.Ytigebiknlodghaa
