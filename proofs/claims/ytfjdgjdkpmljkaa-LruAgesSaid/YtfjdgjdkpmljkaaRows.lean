/-
  No cell of these rows narrows 'for every input' (looked for: loops, veiled, ifaces, maps, wideKeys, modest, calm, conditions, laid).
  DERIVED. THE GIVEN ROWS OF THIS SEAT. 12 by the template 'for every input the law returns true; each argument reads behind the call as it read before'; 0 by the template 'total and deterministic' (their statements: YtfjdgjdkpmljkaaTotals.lean).
  GIVEN WITH THE SEED: the statements are not yours to turn. If you find one false, say at which input.
  Laid BY PROGRAM, IN A SANDBOX (cutbox-rows.mjs): the forced cells as the released guide's own fill.sh prints them over the translation 22ca9756d91b8bdf… (all of the seat's roots in one cut). By AI agents, Wed Nov 11 2026. No macro, syntax, notation, axiom, sorry.
-/
import Derived.Test.YtfjdgjdkpmljkaaChecked
import GoSem.Claim
import GoSem.ClaimJoined
import GoSem.ClaimMapViews
import Derived.JoinedTies
import Derived.KernelRfl
namespace Go.Proofs.Ytfjdgjdkpmljkaa
/- THE CELL 'sum', in the pinned program and in every row, IS THE sha256 OF THE DUMP (.gsa) THAT YtfjdgjdkpmljkaaProg.lean LOADS. Nothing in Lean hashes anything: it is a label: what it is worth is what the hold of that sum in a sandbox is worth. -/
noncomputable def Try.pinned : Pinned := { name := "ytfjdgjdkpmljkaa", sum := "22ca9756d91b8bdfae6148300085bdd721cabb68590f5df2e92ea6c27fe02ffb", checked := Try.checked }
namespace Rows
def none {H : Type} : Left H := { results := [], args := [] }

/-- 'gunnylaw19.HandleFull': WHATEVER THE INPUT: true; the input reads as it did. -/
def handleFullSpec : ChangeSpec := { name := "handleFull", fn := fun _ => fun
  | [d1, d2] => { results := [.lit (.bool true)], args := [d1, d2] }
  | _ => none }
def handleFullRow : OpenClaim := { program := "ytfjdgjdkpmljkaa", sum := "22ca9756d91b8bdfae6148300085bdd721cabb68590f5df2e92ea6c27fe02ffb", func := "gunny/gunnylaw19.HandleFull", spec := "handleFull", apart := false }
def HandleFullSaid : Prop := handleFullRow.holds Try.pinned (OpenSpec.ofChange handleFullSpec)

/-- ITS FALSE NEIGHBOUR: 'it returns false'. Refute it at one input. -/
def handleFullWrong : ChangeSpec := { name := "handleFull", fn := fun _ => fun
  | [d1, d2] => { results := [.lit (.bool false)], args := [d1, d2] }
  | _ => none }
def HandleFullWrongFalsely : Prop := handleFullRow.holds Try.pinned (OpenSpec.ofChange handleFullWrong)

/-- 'gunnylaw19.HandleKeeps': WHATEVER THE INPUT: true; the input reads as it did. -/
def handleKeepsSpec : ChangeSpec := { name := "handleKeeps", fn := fun _ => fun
  | [d1, d2] => { results := [.lit (.bool true)], args := [d1, d2] }
  | _ => none }
def handleKeepsRow : OpenClaim := { program := "ytfjdgjdkpmljkaa", sum := "22ca9756d91b8bdfae6148300085bdd721cabb68590f5df2e92ea6c27fe02ffb", func := "gunny/gunnylaw19.HandleKeeps", spec := "handleKeeps", apart := false }
def HandleKeepsSaid : Prop := handleKeepsRow.holds Try.pinned (OpenSpec.ofChange handleKeepsSpec)

/-- ITS FALSE NEIGHBOUR: 'it returns false'. Refute it at one input. -/
def handleKeepsWrong : ChangeSpec := { name := "handleKeeps", fn := fun _ => fun
  | [d1, d2] => { results := [.lit (.bool false)], args := [d1, d2] }
  | _ => none }
def HandleKeepsWrongFalsely : Prop := handleKeepsRow.holds Try.pinned (OpenSpec.ofChange handleKeepsWrong)

/-- 'gunnylaw26.LimitHolds': WHATEVER THE INPUT: true; the input reads as it did. -/
def limitHoldsSpec : ChangeSpec := { name := "limitHolds", fn := fun _ => fun
  | [d1, d2, d3] => { results := [.lit (.bool true)], args := [d1, d2, d3] }
  | _ => none }
def limitHoldsRow : OpenClaim := { program := "ytfjdgjdkpmljkaa", sum := "22ca9756d91b8bdfae6148300085bdd721cabb68590f5df2e92ea6c27fe02ffb", func := "gunny/gunnylaw26.LimitHolds", spec := "limitHolds", apart := false }
def LimitHoldsSaid : Prop := limitHoldsRow.holds Try.pinned (OpenSpec.ofChange limitHoldsSpec)

/-- ITS FALSE NEIGHBOUR: 'it returns false'. Refute it at one input. -/
def limitHoldsWrong : ChangeSpec := { name := "limitHolds", fn := fun _ => fun
  | [d1, d2, d3] => { results := [.lit (.bool false)], args := [d1, d2, d3] }
  | _ => none }
def LimitHoldsWrongFalsely : Prop := limitHoldsRow.holds Try.pinned (OpenSpec.ofChange limitHoldsWrong)

/-- 'gunnylaw03.ChainOrders': WHATEVER THE INPUT: true; the input reads as it did. -/
def chainOrdersSpec : ChangeSpec := { name := "chainOrders", fn := fun _ => fun
  | [d] => { results := [.lit (.bool true)], args := [d] }
  | _ => none }
def chainOrdersRow : OpenClaim := { program := "ytfjdgjdkpmljkaa", sum := "22ca9756d91b8bdfae6148300085bdd721cabb68590f5df2e92ea6c27fe02ffb", func := "gunny/gunnylaw03.ChainOrders", spec := "chainOrders", apart := false }
def ChainOrdersSaid : Prop := chainOrdersRow.holds Try.pinned (OpenSpec.ofChange chainOrdersSpec)

/-- ITS FALSE NEIGHBOUR: 'it returns false'. Refute it at one input. -/
def chainOrdersWrong : ChangeSpec := { name := "chainOrders", fn := fun _ => fun
  | [d] => { results := [.lit (.bool false)], args := [d] }
  | _ => none }
def ChainOrdersWrongFalsely : Prop := chainOrdersRow.holds Try.pinned (OpenSpec.ofChange chainOrdersWrong)

/-- 'gunnylaw26.LimitTells': WHATEVER THE INPUT: true; the input reads as it did. -/
def limitTellsSpec : ChangeSpec := { name := "limitTells", fn := fun _ => fun
  | [d1, d2, d3] => { results := [.lit (.bool true)], args := [d1, d2, d3] }
  | _ => none }
def limitTellsRow : OpenClaim := { program := "ytfjdgjdkpmljkaa", sum := "22ca9756d91b8bdfae6148300085bdd721cabb68590f5df2e92ea6c27fe02ffb", func := "gunny/gunnylaw26.LimitTells", spec := "limitTells", apart := false }
def LimitTellsSaid : Prop := limitTellsRow.holds Try.pinned (OpenSpec.ofChange limitTellsSpec)

/-- ITS FALSE NEIGHBOUR: 'it returns false'. Refute it at one input. -/
def limitTellsWrong : ChangeSpec := { name := "limitTells", fn := fun _ => fun
  | [d1, d2, d3] => { results := [.lit (.bool false)], args := [d1, d2, d3] }
  | _ => none }
def LimitTellsWrongFalsely : Prop := limitTellsRow.holds Try.pinned (OpenSpec.ofChange limitTellsWrong)

/-- 'gunnylaw26.LimitPlays': WHATEVER THE INPUT: true; the input reads as it did. -/
def limitPlaysSpec : ChangeSpec := { name := "limitPlays", fn := fun _ => fun
  | [d1, d2, d3] => { results := [.lit (.bool true)], args := [d1, d2, d3] }
  | _ => none }
def limitPlaysRow : OpenClaim := { program := "ytfjdgjdkpmljkaa", sum := "22ca9756d91b8bdfae6148300085bdd721cabb68590f5df2e92ea6c27fe02ffb", func := "gunny/gunnylaw26.LimitPlays", spec := "limitPlays", apart := false }
def LimitPlaysSaid : Prop := limitPlaysRow.holds Try.pinned (OpenSpec.ofChange limitPlaysSpec)

/-- ITS FALSE NEIGHBOUR: 'it returns false'. Refute it at one input. -/
def limitPlaysWrong : ChangeSpec := { name := "limitPlays", fn := fun _ => fun
  | [d1, d2, d3] => { results := [.lit (.bool false)], args := [d1, d2, d3] }
  | _ => none }
def LimitPlaysWrongFalsely : Prop := limitPlaysRow.holds Try.pinned (OpenSpec.ofChange limitPlaysWrong)

/-- 'gunnylaw19.HandlePlays': WHATEVER THE INPUT: true; the input reads as it did. -/
def handlePlaysSpec : ChangeSpec := { name := "handlePlays", fn := fun _ => fun
  | [d1, d2] => { results := [.lit (.bool true)], args := [d1, d2] }
  | _ => none }
def handlePlaysRow : OpenClaim := { program := "ytfjdgjdkpmljkaa", sum := "22ca9756d91b8bdfae6148300085bdd721cabb68590f5df2e92ea6c27fe02ffb", func := "gunny/gunnylaw19.HandlePlays", spec := "handlePlays", apart := false }
def HandlePlaysSaid : Prop := handlePlaysRow.holds Try.pinned (OpenSpec.ofChange handlePlaysSpec)

/-- ITS FALSE NEIGHBOUR: 'it returns false'. Refute it at one input. -/
def handlePlaysWrong : ChangeSpec := { name := "handlePlays", fn := fun _ => fun
  | [d1, d2] => { results := [.lit (.bool false)], args := [d1, d2] }
  | _ => none }
def HandlePlaysWrongFalsely : Prop := handlePlaysRow.holds Try.pinned (OpenSpec.ofChange handlePlaysWrong)

/-- 'gunnylaw03.ChainPlays': WHATEVER THE INPUT: true; the input reads as it did. -/
def chainPlaysSpec : ChangeSpec := { name := "chainPlays", fn := fun _ => fun
  | [d1, d2] => { results := [.lit (.bool true)], args := [d1, d2] }
  | _ => none }
def chainPlaysRow : OpenClaim := { program := "ytfjdgjdkpmljkaa", sum := "22ca9756d91b8bdfae6148300085bdd721cabb68590f5df2e92ea6c27fe02ffb", func := "gunny/gunnylaw03.ChainPlays", spec := "chainPlays", unfollowed := true, recurses := true, apart := false }
def ChainPlaysSaid : Prop := chainPlaysRow.holds Try.pinned (OpenSpec.ofChange chainPlaysSpec)

/-- ITS FALSE NEIGHBOUR: 'it returns false'. Refute it at one input. -/
def chainPlaysWrong : ChangeSpec := { name := "chainPlays", fn := fun _ => fun
  | [d1, d2] => { results := [.lit (.bool false)], args := [d1, d2] }
  | _ => none }
def ChainPlaysWrongFalsely : Prop := chainPlaysRow.holds Try.pinned (OpenSpec.ofChange chainPlaysWrong)

/-- 'gunnylaw03.ChainStops': WHATEVER THE INPUT: true; the input reads as it did. -/
def chainStopsSpec : ChangeSpec := { name := "chainStops", fn := fun _ => fun
  | [d1, d2] => { results := [.lit (.bool true)], args := [d1, d2] }
  | _ => none }
def chainStopsRow : OpenClaim := { program := "ytfjdgjdkpmljkaa", sum := "22ca9756d91b8bdfae6148300085bdd721cabb68590f5df2e92ea6c27fe02ffb", func := "gunny/gunnylaw03.ChainStops", spec := "chainStops", unfollowed := true, recurses := true, apart := false }
def ChainStopsSaid : Prop := chainStopsRow.holds Try.pinned (OpenSpec.ofChange chainStopsSpec)

/-- ITS FALSE NEIGHBOUR: 'it returns false'. Refute it at one input. -/
def chainStopsWrong : ChangeSpec := { name := "chainStops", fn := fun _ => fun
  | [d1, d2] => { results := [.lit (.bool false)], args := [d1, d2] }
  | _ => none }
def ChainStopsWrongFalsely : Prop := chainStopsRow.holds Try.pinned (OpenSpec.ofChange chainStopsWrong)

/-- 'gunnylaw25.LruFull': WHATEVER THE INPUT: true; the input reads as it did. -/
def lruFullSpec : ChangeSpec := { name := "lruFull", fn := fun _ => fun
  | [d] => { results := [.lit (.bool true)], args := [d] }
  | _ => none }
def lruFullRow : OpenClaim := { program := "ytfjdgjdkpmljkaa", sum := "22ca9756d91b8bdfae6148300085bdd721cabb68590f5df2e92ea6c27fe02ffb", func := "gunny/gunnylaw25.LruFull", spec := "lruFull", unfollowed := true, recurses := true, apart := false }
def LruFullSaid : Prop := lruFullRow.holds Try.pinned (OpenSpec.ofChange lruFullSpec)

/-- ITS FALSE NEIGHBOUR: 'it returns false'. Refute it at one input. -/
def lruFullWrong : ChangeSpec := { name := "lruFull", fn := fun _ => fun
  | [d] => { results := [.lit (.bool false)], args := [d] }
  | _ => none }
def LruFullWrongFalsely : Prop := lruFullRow.holds Try.pinned (OpenSpec.ofChange lruFullWrong)

/-- 'gunnylaw25.LruAges': WHATEVER THE INPUT: true; the input reads as it did. -/
def lruAgesSpec : ChangeSpec := { name := "lruAges", fn := fun _ => fun
  | [d1, d2] => { results := [.lit (.bool true)], args := [d1, d2] }
  | _ => none }
def lruAgesRow : OpenClaim := { program := "ytfjdgjdkpmljkaa", sum := "22ca9756d91b8bdfae6148300085bdd721cabb68590f5df2e92ea6c27fe02ffb", func := "gunny/gunnylaw25.LruAges", spec := "lruAges", unfollowed := true, recurses := true, apart := false }
def LruAgesSaid : Prop := lruAgesRow.holds Try.pinned (OpenSpec.ofChange lruAgesSpec)

/-- ITS FALSE NEIGHBOUR: 'it returns false'. Refute it at one input. -/
def lruAgesWrong : ChangeSpec := { name := "lruAges", fn := fun _ => fun
  | [d1, d2] => { results := [.lit (.bool false)], args := [d1, d2] }
  | _ => none }
def LruAgesWrongFalsely : Prop := lruAgesRow.holds Try.pinned (OpenSpec.ofChange lruAgesWrong)

/-- 'gunnylaw25.LruPlays': WHATEVER THE INPUT: true; the input reads as it did. -/
def lruPlaysSpec : ChangeSpec := { name := "lruPlays", fn := fun _ => fun
  | [d1, d2, d3] => { results := [.lit (.bool true)], args := [d1, d2, d3] }
  | _ => none }
def lruPlaysRow : OpenClaim := { program := "ytfjdgjdkpmljkaa", sum := "22ca9756d91b8bdfae6148300085bdd721cabb68590f5df2e92ea6c27fe02ffb", func := "gunny/gunnylaw25.LruPlays", spec := "lruPlays", unfollowed := true, recurses := true, apart := false }
def LruPlaysSaid : Prop := lruPlaysRow.holds Try.pinned (OpenSpec.ofChange lruPlaysSpec)

/-- ITS FALSE NEIGHBOUR: 'it returns false'. Refute it at one input. -/
def lruPlaysWrong : ChangeSpec := { name := "lruPlays", fn := fun _ => fun
  | [d1, d2, d3] => { results := [.lit (.bool false)], args := [d1, d2, d3] }
  | _ => none }
def LruPlaysWrongFalsely : Prop := lruPlaysRow.holds Try.pinned (OpenSpec.ofChange lruPlaysWrong)

/- THE SECOND FORM. 'bulk': how many values and letters a reading holds, each counted each time it is reached (what is shared counts as often as it is met; a slice's spare places count too). A statement '..UptoSaid' is the law's where the arguments, and the package variables that the reading takes, are together of bulk at most 1048576: NARROWER than '..Said'. Prove '..Said' where nothing that the law and all that it calls make is longer than what came in: it says more and counts as full. Else prove '..UptoSaid'. A law counts once. -/
mutual
def uptoBulk {H : Type} : DataW H → Nat
  | .lit (.string bytes) => bytes.length + 1
  | .lit _ => 1
  | .nil => 1
  | .ptr d => uptoBulk d + 1
  | .slice elems spare => uptoBulkAll elems + uptoBulkAll spare + 1
  | .agg parts => uptoBulkAll parts + 1
  | .iface _ d => uptoBulk d + 1
  | .map entries => uptoBulkEntries entries + 1
  | .held _ => 1
def uptoBulkAll {H : Type} : List (DataW H) → Nat
  | [] => 0
  | d :: r => uptoBulk d + uptoBulkAll r
def uptoBulkEntries {H : Type} : List (Lit × DataW H) → Nat
  | [] => 0
  | x :: r => uptoBulkEntry x + uptoBulkEntries r
def uptoBulkEntry {H : Type} : Lit × DataW H → Nat
  | (.string bytes, d) => bytes.length + uptoBulk d + 1
  | (_, d) => uptoBulk d + 1
 end
def uptoSmall : (H : Type) → List (DataW H) → Bool := fun _ ds => decide (uptoBulkAll ds ≤ 1048576)
def OpenSpec.upto (s : _root_.Go.ChangeSpec) : _root_.Go.OpenSpec := { _root_.Go.OpenSpec.ofChange s with cond := some uptoSmall }

/-- 'gunnylaw19.HandleFull', WHERE WHAT IT READS IS OF BULK AT MOST 1048576: true; the input reads as it did. -/
def handleFullUptoRow : OpenClaim := { program := "ytfjdgjdkpmljkaa", sum := "22ca9756d91b8bdfae6148300085bdd721cabb68590f5df2e92ea6c27fe02ffb", func := "gunny/gunnylaw19.HandleFull", spec := "handleFull", apart := false, narrowed := true }
def HandleFullUptoSaid : Prop := handleFullUptoRow.holds Try.pinned (OpenSpec.upto handleFullSpec)

/-- 'gunnylaw19.HandleKeeps', WHERE WHAT IT READS IS OF BULK AT MOST 1048576: true; the input reads as it did. -/
def handleKeepsUptoRow : OpenClaim := { program := "ytfjdgjdkpmljkaa", sum := "22ca9756d91b8bdfae6148300085bdd721cabb68590f5df2e92ea6c27fe02ffb", func := "gunny/gunnylaw19.HandleKeeps", spec := "handleKeeps", apart := false, narrowed := true }
def HandleKeepsUptoSaid : Prop := handleKeepsUptoRow.holds Try.pinned (OpenSpec.upto handleKeepsSpec)

/-- 'gunnylaw26.LimitHolds', WHERE WHAT IT READS IS OF BULK AT MOST 1048576: true; the input reads as it did. -/
def limitHoldsUptoRow : OpenClaim := { program := "ytfjdgjdkpmljkaa", sum := "22ca9756d91b8bdfae6148300085bdd721cabb68590f5df2e92ea6c27fe02ffb", func := "gunny/gunnylaw26.LimitHolds", spec := "limitHolds", apart := false, narrowed := true }
def LimitHoldsUptoSaid : Prop := limitHoldsUptoRow.holds Try.pinned (OpenSpec.upto limitHoldsSpec)

/-- 'gunnylaw03.ChainOrders', WHERE WHAT IT READS IS OF BULK AT MOST 1048576: true; the input reads as it did. -/
def chainOrdersUptoRow : OpenClaim := { program := "ytfjdgjdkpmljkaa", sum := "22ca9756d91b8bdfae6148300085bdd721cabb68590f5df2e92ea6c27fe02ffb", func := "gunny/gunnylaw03.ChainOrders", spec := "chainOrders", apart := false, narrowed := true }
def ChainOrdersUptoSaid : Prop := chainOrdersUptoRow.holds Try.pinned (OpenSpec.upto chainOrdersSpec)

/-- 'gunnylaw26.LimitTells', WHERE WHAT IT READS IS OF BULK AT MOST 1048576: true; the input reads as it did. -/
def limitTellsUptoRow : OpenClaim := { program := "ytfjdgjdkpmljkaa", sum := "22ca9756d91b8bdfae6148300085bdd721cabb68590f5df2e92ea6c27fe02ffb", func := "gunny/gunnylaw26.LimitTells", spec := "limitTells", apart := false, narrowed := true }
def LimitTellsUptoSaid : Prop := limitTellsUptoRow.holds Try.pinned (OpenSpec.upto limitTellsSpec)

/-- 'gunnylaw26.LimitPlays', WHERE WHAT IT READS IS OF BULK AT MOST 1048576: true; the input reads as it did. -/
def limitPlaysUptoRow : OpenClaim := { program := "ytfjdgjdkpmljkaa", sum := "22ca9756d91b8bdfae6148300085bdd721cabb68590f5df2e92ea6c27fe02ffb", func := "gunny/gunnylaw26.LimitPlays", spec := "limitPlays", apart := false, narrowed := true }
def LimitPlaysUptoSaid : Prop := limitPlaysUptoRow.holds Try.pinned (OpenSpec.upto limitPlaysSpec)

/-- 'gunnylaw19.HandlePlays', WHERE WHAT IT READS IS OF BULK AT MOST 1048576: true; the input reads as it did. -/
def handlePlaysUptoRow : OpenClaim := { program := "ytfjdgjdkpmljkaa", sum := "22ca9756d91b8bdfae6148300085bdd721cabb68590f5df2e92ea6c27fe02ffb", func := "gunny/gunnylaw19.HandlePlays", spec := "handlePlays", apart := false, narrowed := true }
def HandlePlaysUptoSaid : Prop := handlePlaysUptoRow.holds Try.pinned (OpenSpec.upto handlePlaysSpec)

/-- 'gunnylaw03.ChainPlays', WHERE WHAT IT READS IS OF BULK AT MOST 1048576: true; the input reads as it did. -/
def chainPlaysUptoRow : OpenClaim := { program := "ytfjdgjdkpmljkaa", sum := "22ca9756d91b8bdfae6148300085bdd721cabb68590f5df2e92ea6c27fe02ffb", func := "gunny/gunnylaw03.ChainPlays", spec := "chainPlays", unfollowed := true, recurses := true, apart := false, narrowed := true }
def ChainPlaysUptoSaid : Prop := chainPlaysUptoRow.holds Try.pinned (OpenSpec.upto chainPlaysSpec)

/-- 'gunnylaw03.ChainStops', WHERE WHAT IT READS IS OF BULK AT MOST 1048576: true; the input reads as it did. -/
def chainStopsUptoRow : OpenClaim := { program := "ytfjdgjdkpmljkaa", sum := "22ca9756d91b8bdfae6148300085bdd721cabb68590f5df2e92ea6c27fe02ffb", func := "gunny/gunnylaw03.ChainStops", spec := "chainStops", unfollowed := true, recurses := true, apart := false, narrowed := true }
def ChainStopsUptoSaid : Prop := chainStopsUptoRow.holds Try.pinned (OpenSpec.upto chainStopsSpec)

/-- 'gunnylaw25.LruFull', WHERE WHAT IT READS IS OF BULK AT MOST 1048576: true; the input reads as it did. -/
def lruFullUptoRow : OpenClaim := { program := "ytfjdgjdkpmljkaa", sum := "22ca9756d91b8bdfae6148300085bdd721cabb68590f5df2e92ea6c27fe02ffb", func := "gunny/gunnylaw25.LruFull", spec := "lruFull", unfollowed := true, recurses := true, apart := false, narrowed := true }
def LruFullUptoSaid : Prop := lruFullUptoRow.holds Try.pinned (OpenSpec.upto lruFullSpec)

/-- 'gunnylaw25.LruAges', WHERE WHAT IT READS IS OF BULK AT MOST 1048576: true; the input reads as it did. -/
def lruAgesUptoRow : OpenClaim := { program := "ytfjdgjdkpmljkaa", sum := "22ca9756d91b8bdfae6148300085bdd721cabb68590f5df2e92ea6c27fe02ffb", func := "gunny/gunnylaw25.LruAges", spec := "lruAges", unfollowed := true, recurses := true, apart := false, narrowed := true }
def LruAgesUptoSaid : Prop := lruAgesUptoRow.holds Try.pinned (OpenSpec.upto lruAgesSpec)

/-- 'gunnylaw25.LruPlays', WHERE WHAT IT READS IS OF BULK AT MOST 1048576: true; the input reads as it did. -/
def lruPlaysUptoRow : OpenClaim := { program := "ytfjdgjdkpmljkaa", sum := "22ca9756d91b8bdfae6148300085bdd721cabb68590f5df2e92ea6c27fe02ffb", func := "gunny/gunnylaw25.LruPlays", spec := "lruPlays", unfollowed := true, recurses := true, apart := false, narrowed := true }
def LruPlaysUptoSaid : Prop := lruPlaysUptoRow.holds Try.pinned (OpenSpec.upto lruPlaysSpec)

end Rows
end Go.Proofs.Ytfjdgjdkpmljkaa
