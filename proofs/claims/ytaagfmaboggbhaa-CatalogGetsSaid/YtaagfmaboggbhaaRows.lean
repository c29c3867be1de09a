/-
  No cell of these rows narrows 'for every input' (looked for: loops, veiled, ifaces, maps, wideKeys, modest, calm, conditions, laid).
  DERIVED. THE GIVEN ROWS OF THIS SEAT. 8 by the template 'for every input the law returns true; each argument reads behind the call as it read before'; 0 by the template 'total and deterministic' (their statements: YtaagfmaboggbhaaTotals.lean).
  GIVEN WITH THE SEED: the statements are not yours to turn. If you find one false, say at which input.
  Laid BY PROGRAM, IN A SANDBOX (cutbox-rows.mjs): the forced cells as the released guide's own fill.sh prints them over the translation 4d7450121d8ffc71… (all of the seat's roots in one cut). By AI agents, Wed Nov 11 2026. No macro, syntax, notation, axiom, sorry.
-/
import Derived.Test.YtaagfmaboggbhaaChecked
import GoSem.Claim
import GoSem.ClaimJoined
import GoSem.ClaimMapViews
import Derived.JoinedTies
import Derived.KernelRfl
namespace Go.Proofs.Ytaagfmaboggbhaa
/- THE CELL 'sum', in the pinned program and in every row, IS THE sha256 OF THE DUMP (.gsa) THAT YtaagfmaboggbhaaProg.lean LOADS. Nothing in Lean hashes anything: it is a label: what it is worth is what the hold of that sum in a sandbox is worth. -/
noncomputable def Try.pinned : Pinned := { name := "ytaagfmaboggbhaa", sum := "4d7450121d8ffc71e80294a43aea292b824e18695d8e752b3b89ab560fece02c", checked := Try.checked }
namespace Rows
def none {H : Type} : Left H := { results := [], args := [] }

/-- 'yesteryearlaw06.BitmapReads': WHATEVER THE INPUT: true; the input reads as it did. -/
def bitmapReadsSpec : ChangeSpec := { name := "bitmapReads", fn := fun _ => fun
  | [d1, d2] => { results := [.lit (.bool true)], args := [d1, d2] }
  | _ => none }
def bitmapReadsRow : OpenClaim := { program := "ytaagfmaboggbhaa", sum := "4d7450121d8ffc71e80294a43aea292b824e18695d8e752b3b89ab560fece02c", func := "yesteryear/yesteryearlaw06.BitmapReads", spec := "bitmapReads", apart := false }
def BitmapReadsSaid : Prop := bitmapReadsRow.holds Try.pinned (OpenSpec.ofChange bitmapReadsSpec)

/-- ITS FALSE NEIGHBOUR: 'it returns false'. Refute it at one input. -/
def bitmapReadsWrong : ChangeSpec := { name := "bitmapReads", fn := fun _ => fun
  | [d1, d2] => { results := [.lit (.bool false)], args := [d1, d2] }
  | _ => none }
def BitmapReadsWrongFalsely : Prop := bitmapReadsRow.holds Try.pinned (OpenSpec.ofChange bitmapReadsWrong)

/-- 'yesteryearlaw10.DeltaOf': WHATEVER THE INPUT: true; the input reads as it did. -/
def deltaOfSpec : ChangeSpec := { name := "deltaOf", fn := fun _ => fun
  | [d1, d2] => { results := [.lit (.bool true)], args := [d1, d2] }
  | _ => none }
def deltaOfRow : OpenClaim := { program := "ytaagfmaboggbhaa", sum := "4d7450121d8ffc71e80294a43aea292b824e18695d8e752b3b89ab560fece02c", func := "yesteryear/yesteryearlaw10.DeltaOf", spec := "deltaOf", apart := false }
def DeltaOfSaid : Prop := deltaOfRow.holds Try.pinned (OpenSpec.ofChange deltaOfSpec)

/-- ITS FALSE NEIGHBOUR: 'it returns false'. Refute it at one input. -/
def deltaOfWrong : ChangeSpec := { name := "deltaOf", fn := fun _ => fun
  | [d1, d2] => { results := [.lit (.bool false)], args := [d1, d2] }
  | _ => none }
def DeltaOfWrongFalsely : Prop := deltaOfRow.holds Try.pinned (OpenSpec.ofChange deltaOfWrong)

/-- 'yesteryearlaw10.DeltaApply': WHATEVER THE INPUT: true; the input reads as it did. -/
def deltaApplySpec : ChangeSpec := { name := "deltaApply", fn := fun _ => fun
  | [d1, d2] => { results := [.lit (.bool true)], args := [d1, d2] }
  | _ => none }
def deltaApplyRow : OpenClaim := { program := "ytaagfmaboggbhaa", sum := "4d7450121d8ffc71e80294a43aea292b824e18695d8e752b3b89ab560fece02c", func := "yesteryear/yesteryearlaw10.DeltaApply", spec := "deltaApply", apart := false }
def DeltaApplySaid : Prop := deltaApplyRow.holds Try.pinned (OpenSpec.ofChange deltaApplySpec)

/-- ITS FALSE NEIGHBOUR: 'it returns false'. Refute it at one input. -/
def deltaApplyWrong : ChangeSpec := { name := "deltaApply", fn := fun _ => fun
  | [d1, d2] => { results := [.lit (.bool false)], args := [d1, d2] }
  | _ => none }
def DeltaApplyWrongFalsely : Prop := deltaApplyRow.holds Try.pinned (OpenSpec.ofChange deltaApplyWrong)

/-- 'yesteryearlaw04.KeyNext': WHATEVER THE INPUT: true; the input reads as it did. -/
def keyNextSpec : ChangeSpec := { name := "keyNext", fn := fun _ => fun
  | [d1, d2] => { results := [.lit (.bool true)], args := [d1, d2] }
  | _ => none }
def keyNextRow : OpenClaim := { program := "ytaagfmaboggbhaa", sum := "4d7450121d8ffc71e80294a43aea292b824e18695d8e752b3b89ab560fece02c", func := "yesteryear/yesteryearlaw04.KeyNext", spec := "keyNext", apart := false }
def KeyNextSaid : Prop := keyNextRow.holds Try.pinned (OpenSpec.ofChange keyNextSpec)

/-- ITS FALSE NEIGHBOUR: 'it returns false'. Refute it at one input. -/
def keyNextWrong : ChangeSpec := { name := "keyNext", fn := fun _ => fun
  | [d1, d2] => { results := [.lit (.bool false)], args := [d1, d2] }
  | _ => none }
def KeyNextWrongFalsely : Prop := keyNextRow.holds Try.pinned (OpenSpec.ofChange keyNextWrong)

/-- 'yesteryearlaw04.KeyOrder': WHATEVER THE INPUT: true; the input reads as it did. -/
def keyOrderSpec : ChangeSpec := { name := "keyOrder", fn := fun _ => fun
  | [d1, d2] => { results := [.lit (.bool true)], args := [d1, d2] }
  | _ => none }
def keyOrderRow : OpenClaim := { program := "ytaagfmaboggbhaa", sum := "4d7450121d8ffc71e80294a43aea292b824e18695d8e752b3b89ab560fece02c", func := "yesteryear/yesteryearlaw04.KeyOrder", spec := "keyOrder", apart := false }
def KeyOrderSaid : Prop := keyOrderRow.holds Try.pinned (OpenSpec.ofChange keyOrderSpec)

/-- ITS FALSE NEIGHBOUR: 'it returns false'. Refute it at one input. -/
def keyOrderWrong : ChangeSpec := { name := "keyOrder", fn := fun _ => fun
  | [d1, d2] => { results := [.lit (.bool false)], args := [d1, d2] }
  | _ => none }
def KeyOrderWrongFalsely : Prop := keyOrderRow.holds Try.pinned (OpenSpec.ofChange keyOrderWrong)

/-- 'yesteryearlaw06.BitmapPlays': WHATEVER THE INPUT: true; the input reads as it did. -/
def bitmapPlaysSpec : ChangeSpec := { name := "bitmapPlays", fn := fun _ => fun
  | [d1, d2] => { results := [.lit (.bool true)], args := [d1, d2] }
  | _ => none }
def bitmapPlaysRow : OpenClaim := { program := "ytaagfmaboggbhaa", sum := "4d7450121d8ffc71e80294a43aea292b824e18695d8e752b3b89ab560fece02c", func := "yesteryear/yesteryearlaw06.BitmapPlays", spec := "bitmapPlays", unfollowed := true, recurses := true, apart := false }
def BitmapPlaysSaid : Prop := bitmapPlaysRow.holds Try.pinned (OpenSpec.ofChange bitmapPlaysSpec)

/-- ITS FALSE NEIGHBOUR: 'it returns false'. Refute it at one input. -/
def bitmapPlaysWrong : ChangeSpec := { name := "bitmapPlays", fn := fun _ => fun
  | [d1, d2] => { results := [.lit (.bool false)], args := [d1, d2] }
  | _ => none }
def BitmapPlaysWrongFalsely : Prop := bitmapPlaysRow.holds Try.pinned (OpenSpec.ofChange bitmapPlaysWrong)

/-- 'yesteryearlaw32.CatalogPuts': WHATEVER THE INPUT: true; the input reads as it did. -/
def catalogPutsSpec : ChangeSpec := { name := "catalogPuts", fn := fun _ => fun
  | [d] => { results := [.lit (.bool true)], args := [d] }
  | _ => none }
def catalogPutsRow : OpenClaim := { program := "ytaagfmaboggbhaa", sum := "4d7450121d8ffc71e80294a43aea292b824e18695d8e752b3b89ab560fece02c", func := "yesteryear/yesteryearlaw32.CatalogPuts", spec := "catalogPuts", unfollowed := true, recurses := true, apart := false }
def CatalogPutsSaid : Prop := catalogPutsRow.holds Try.pinned (OpenSpec.ofChange catalogPutsSpec)

/-- ITS FALSE NEIGHBOUR: 'it returns false'. Refute it at one input. -/
def catalogPutsWrong : ChangeSpec := { name := "catalogPuts", fn := fun _ => fun
  | [d] => { results := [.lit (.bool false)], args := [d] }
  | _ => none }
def CatalogPutsWrongFalsely : Prop := catalogPutsRow.holds Try.pinned (OpenSpec.ofChange catalogPutsWrong)

/-- 'yesteryearlaw32.CatalogGets': WHATEVER THE INPUT: true; the input reads as it did. -/
def catalogGetsSpec : ChangeSpec := { name := "catalogGets", fn := fun _ => fun
  | [d1, d2] => { results := [.lit (.bool true)], args := [d1, d2] }
  | _ => none }
def catalogGetsRow : OpenClaim := { program := "ytaagfmaboggbhaa", sum := "4d7450121d8ffc71e80294a43aea292b824e18695d8e752b3b89ab560fece02c", func := "yesteryear/yesteryearlaw32.CatalogGets", spec := "catalogGets", unfollowed := true, recurses := true, apart := false }
def CatalogGetsSaid : Prop := catalogGetsRow.holds Try.pinned (OpenSpec.ofChange catalogGetsSpec)

/-- ITS FALSE NEIGHBOUR: 'it returns false'. Refute it at one input. -/
def catalogGetsWrong : ChangeSpec := { name := "catalogGets", fn := fun _ => fun
  | [d1, d2] => { results := [.lit (.bool false)], args := [d1, d2] }
  | _ => none }
def CatalogGetsWrongFalsely : Prop := catalogGetsRow.holds Try.pinned (OpenSpec.ofChange catalogGetsWrong)

/- THE SECOND FORM. 'bulk': how many values and letters a reading holds, each counted each time it is reached (what is shared counts as often as it is met; a slice's spare places count too). A statement '..UptoSaid' is the law's where the arguments, and the package variables that the reading takes, are together of bulk at most 1048576: NARROWER than '..Said'. Prove '..Said' where nothing that the law and all that it calls make is longer than what came in: it says more and counts as full. Else prove '..UptoSaid'. A law counts once. -/
mutual
def uptoBulk {H : Type} : DataW H → Nat
  | .lit (.string bytes) => bytes.length + 1
  | .lit _ => 1
  | .nil => 1
  | .ptr d => uptoBulk d + 1
  | .slice elems spare => uptoBulkAll elems + uptoBulkAll spare + 1
  | .agg parts => uptoBulkAll parts + 1
  | .iface _ d => uptoBulk d + 1
  | .map entries => uptoBulkEntries entries + 1
  | .held _ => 1
def uptoBulkAll {H : Type} : List (DataW H) → Nat
  | [] => 0
  | d :: r => uptoBulk d + uptoBulkAll r
def uptoBulkEntries {H : Type} : List (Lit × DataW H) → Nat
  | [] => 0
  | x :: r => uptoBulkEntry x + uptoBulkEntries r
def uptoBulkEntry {H : Type} : Lit × DataW H → Nat
  | (.string bytes, d) => bytes.length + uptoBulk d + 1
  | (_, d) => uptoBulk d + 1
 end
def uptoSmall : (H : Type) → List (DataW H) → Bool := fun _ ds => decide (uptoBulkAll ds ≤ 1048576)
def OpenSpec.upto (s : _root_.Go.ChangeSpec) : _root_.Go.OpenSpec := { _root_.Go.OpenSpec.ofChange s with cond := some uptoSmall }

/-- 'yesteryearlaw06.BitmapReads', WHERE WHAT IT READS IS OF BULK AT MOST 1048576: true; the input reads as it did. -/
def bitmapReadsUptoRow : OpenClaim := { program := "ytaagfmaboggbhaa", sum := "4d7450121d8ffc71e80294a43aea292b824e18695d8e752b3b89ab560fece02c", func := "yesteryear/yesteryearlaw06.BitmapReads", spec := "bitmapReads", apart := false, narrowed := true }
def BitmapReadsUptoSaid : Prop := bitmapReadsUptoRow.holds Try.pinned (OpenSpec.upto bitmapReadsSpec)

/-- 'yesteryearlaw10.DeltaOf', WHERE WHAT IT READS IS OF BULK AT MOST 1048576: true; the input reads as it did. -/
def deltaOfUptoRow : OpenClaim := { program := "ytaagfmaboggbhaa", sum := "4d7450121d8ffc71e80294a43aea292b824e18695d8e752b3b89ab560fece02c", func := "yesteryear/yesteryearlaw10.DeltaOf", spec := "deltaOf", apart := false, narrowed := true }
def DeltaOfUptoSaid : Prop := deltaOfUptoRow.holds Try.pinned (OpenSpec.upto deltaOfSpec)

/-- 'yesteryearlaw10.DeltaApply', WHERE WHAT IT READS IS OF BULK AT MOST 1048576: true; the input reads as it did. -/
def deltaApplyUptoRow : OpenClaim := { program := "ytaagfmaboggbhaa", sum := "4d7450121d8ffc71e80294a43aea292b824e18695d8e752b3b89ab560fece02c", func := "yesteryear/yesteryearlaw10.DeltaApply", spec := "deltaApply", apart := false, narrowed := true }
def DeltaApplyUptoSaid : Prop := deltaApplyUptoRow.holds Try.pinned (OpenSpec.upto deltaApplySpec)

/-- 'yesteryearlaw04.KeyNext', WHERE WHAT IT READS IS OF BULK AT MOST 1048576: true; the input reads as it did. -/
def keyNextUptoRow : OpenClaim := { program := "ytaagfmaboggbhaa", sum := "4d7450121d8ffc71e80294a43aea292b824e18695d8e752b3b89ab560fece02c", func := "yesteryear/yesteryearlaw04.KeyNext", spec := "keyNext", apart := false, narrowed := true }
def KeyNextUptoSaid : Prop := keyNextUptoRow.holds Try.pinned (OpenSpec.upto keyNextSpec)

/-- 'yesteryearlaw04.KeyOrder', WHERE WHAT IT READS IS OF BULK AT MOST 1048576: true; the input reads as it did. -/
def keyOrderUptoRow : OpenClaim := { program := "ytaagfmaboggbhaa", sum := "4d7450121d8ffc71e80294a43aea292b824e18695d8e752b3b89ab560fece02c", func := "yesteryear/yesteryearlaw04.KeyOrder", spec := "keyOrder", apart := false, narrowed := true }
def KeyOrderUptoSaid : Prop := keyOrderUptoRow.holds Try.pinned (OpenSpec.upto keyOrderSpec)

/-- 'yesteryearlaw06.BitmapPlays', WHERE WHAT IT READS IS OF BULK AT MOST 1048576: true; the input reads as it did. -/
def bitmapPlaysUptoRow : OpenClaim := { program := "ytaagfmaboggbhaa", sum := "4d7450121d8ffc71e80294a43aea292b824e18695d8e752b3b89ab560fece02c", func := "yesteryear/yesteryearlaw06.BitmapPlays", spec := "bitmapPlays", unfollowed := true, recurses := true, apart := false, narrowed := true }
def BitmapPlaysUptoSaid : Prop := bitmapPlaysUptoRow.holds Try.pinned (OpenSpec.upto bitmapPlaysSpec)

/-- 'yesteryearlaw32.CatalogPuts', WHERE WHAT IT READS IS OF BULK AT MOST 1048576: true; the input reads as it did. -/
def catalogPutsUptoRow : OpenClaim := { program := "ytaagfmaboggbhaa", sum := "4d7450121d8ffc71e80294a43aea292b824e18695d8e752b3b89ab560fece02c", func := "yesteryear/yesteryearlaw32.CatalogPuts", spec := "catalogPuts", unfollowed := true, recurses := true, apart := false, narrowed := true }
def CatalogPutsUptoSaid : Prop := catalogPutsUptoRow.holds Try.pinned (OpenSpec.upto catalogPutsSpec)

/-- 'yesteryearlaw32.CatalogGets', WHERE WHAT IT READS IS OF BULK AT MOST 1048576: true; the input reads as it did. -/
def catalogGetsUptoRow : OpenClaim := { program := "ytaagfmaboggbhaa", sum := "4d7450121d8ffc71e80294a43aea292b824e18695d8e752b3b89ab560fece02c", func := "yesteryear/yesteryearlaw32.CatalogGets", spec := "catalogGets", unfollowed := true, recurses := true, apart := false, narrowed := true }
def CatalogGetsUptoSaid : Prop := catalogGetsUptoRow.holds Try.pinned (OpenSpec.upto catalogGetsSpec)

end Rows
end Go.Proofs.Ytaagfmaboggbhaa
