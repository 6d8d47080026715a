/-
  No cell of these rows narrows 'for every input' (looked for: loops, veiled, ifaces, maps, wideKeys, modest, calm, conditions, laid).
  DERIVED. THE GIVEN ROWS OF THIS SEAT. 4 by the template 'for every input the law returns true; each argument reads behind the call as it read before'; 0 by the template 'total and deterministic' (their statements: YtheblkofemobdaaGreatTotals.lean).
  GIVEN WITH THE SEED: the statements are not yours to turn. If you find one false, say at which input.
  Laid BY PROGRAM, IN A SANDBOX (cutbox-rows.mjs): the forced cells as the released guide's own fill.sh prints them over the translation d1e964c358860c87… (all of the seat's roots in one cut). By AI agents, Wed Nov 11 2026. No macro, syntax, notation, axiom, sorry.
-/
import Derived.Test.YtheblkofemobdaaGreatChecked
import GoSem.Claim
import GoSem.ClaimJoined
import GoSem.ClaimMapViews
import Derived.JoinedTies
import Derived.KernelRfl
namespace Go.Proofs.YtheblkofemobdaaGreat
/- THE CELL 'sum', in the pinned program and in every row, IS THE sha256 OF THE DUMP (.gsa) THAT YtheblkofemobdaaGreatProg.lean LOADS. Nothing in Lean hashes anything: it is a label: what it is worth is what the hold of that sum in a sandbox is worth. -/
noncomputable def Tryz.pinned : Pinned := { name := "ytheblkofemobdaagreat", sum := "d1e964c358860c8747111f5728dbbbcf45783e99a97433ce7726604df61099c8", checked := Tryz.checked }
namespace Rows
def none {H : Type} : Left H := { results := [], args := [] }

/-- 'gunnylaw20.PoolBest': WHATEVER THE INPUT: true; the input reads as it did. -/
def poolBestSpec : ChangeSpec := { name := "poolBest", fn := fun _ => fun
  | [d1, d2] => { results := [.lit (.bool true)], args := [d1, d2] }
  | _ => none }
def poolBestRow : OpenClaim := { program := "ytheblkofemobdaagreat", sum := "d1e964c358860c8747111f5728dbbbcf45783e99a97433ce7726604df61099c8", func := "gunny/gunnylaw20.PoolBest", spec := "poolBest", unfollowed := true, recurses := true, apart := false }
def PoolBestSaid : Prop := poolBestRow.holds Tryz.pinned (OpenSpec.ofChange poolBestSpec)

/-- ITS FALSE NEIGHBOUR: 'it returns false'. Refute it at one input. -/
def poolBestWrong : ChangeSpec := { name := "poolBest", fn := fun _ => fun
  | [d1, d2] => { results := [.lit (.bool false)], args := [d1, d2] }
  | _ => none }
def PoolBestWrongFalsely : Prop := poolBestRow.holds Tryz.pinned (OpenSpec.ofChange poolBestWrong)

/-- 'gunnylaw20.PoolNone': WHATEVER THE INPUT: true; the input reads as it did. -/
def poolNoneSpec : ChangeSpec := { name := "poolNone", fn := fun _ => fun
  | [d1, d2] => { results := [.lit (.bool true)], args := [d1, d2] }
  | _ => none }
def poolNoneRow : OpenClaim := { program := "ytheblkofemobdaagreat", sum := "d1e964c358860c8747111f5728dbbbcf45783e99a97433ce7726604df61099c8", func := "gunny/gunnylaw20.PoolNone", spec := "poolNone", unfollowed := true, recurses := true, apart := false }
def PoolNoneSaid : Prop := poolNoneRow.holds Tryz.pinned (OpenSpec.ofChange poolNoneSpec)

/-- ITS FALSE NEIGHBOUR: 'it returns false'. Refute it at one input. -/
def poolNoneWrong : ChangeSpec := { name := "poolNone", fn := fun _ => fun
  | [d1, d2] => { results := [.lit (.bool false)], args := [d1, d2] }
  | _ => none }
def PoolNoneWrongFalsely : Prop := poolNoneRow.holds Tryz.pinned (OpenSpec.ofChange poolNoneWrong)

/-- 'gunnylaw20.PoolKeeps': WHATEVER THE INPUT: true; the input reads as it did. -/
def poolKeepsSpec : ChangeSpec := { name := "poolKeeps", fn := fun _ => fun
  | [d1, d2, d3] => { results := [.lit (.bool true)], args := [d1, d2, d3] }
  | _ => none }
def poolKeepsRow : OpenClaim := { program := "ytheblkofemobdaagreat", sum := "d1e964c358860c8747111f5728dbbbcf45783e99a97433ce7726604df61099c8", func := "gunny/gunnylaw20.PoolKeeps", spec := "poolKeeps", unfollowed := true, recurses := true, apart := false }
def PoolKeepsSaid : Prop := poolKeepsRow.holds Tryz.pinned (OpenSpec.ofChange poolKeepsSpec)

/-- ITS FALSE NEIGHBOUR: 'it returns false'. Refute it at one input. -/
def poolKeepsWrong : ChangeSpec := { name := "poolKeeps", fn := fun _ => fun
  | [d1, d2, d3] => { results := [.lit (.bool false)], args := [d1, d2, d3] }
  | _ => none }
def PoolKeepsWrongFalsely : Prop := poolKeepsRow.holds Tryz.pinned (OpenSpec.ofChange poolKeepsWrong)

/-- 'gunnylaw21.MoveFits': WHATEVER THE INPUT: true; the input reads as it did. -/
def moveFitsSpec : ChangeSpec := { name := "moveFits", fn := fun _ => fun
  | [d1, d2] => { results := [.lit (.bool true)], args := [d1, d2] }
  | _ => none }
def moveFitsRow : OpenClaim := { program := "ytheblkofemobdaagreat", sum := "d1e964c358860c8747111f5728dbbbcf45783e99a97433ce7726604df61099c8", func := "gunny/gunnylaw21.MoveFits", spec := "moveFits", unfollowed := true, recurses := true, apart := false }
def MoveFitsSaid : Prop := moveFitsRow.holds Tryz.pinned (OpenSpec.ofChange moveFitsSpec)

/-- ITS FALSE NEIGHBOUR: 'it returns false'. Refute it at one input. -/
def moveFitsWrong : ChangeSpec := { name := "moveFits", fn := fun _ => fun
  | [d1, d2] => { results := [.lit (.bool false)], args := [d1, d2] }
  | _ => none }
def MoveFitsWrongFalsely : Prop := moveFitsRow.holds Tryz.pinned (OpenSpec.ofChange moveFitsWrong)

/- THE SECOND FORM. 'bulk': how many values and letters a reading holds, each counted each time it is reached (what is shared counts as often as it is met; a slice's spare places count too). A statement '..UptoSaid' is the law's where the arguments, and the package variables that the reading takes, are together of bulk at most 1048576: NARROWER than '..Said'. Prove '..Said' where nothing that the law and all that it calls make is longer than what came in: it says more and counts as full. Else prove '..UptoSaid'. A law counts once. -/
mutual
def uptoBulk {H : Type} : DataW H → Nat
  | .lit (.string bytes) => bytes.length + 1
  | .lit _ => 1
  | .nil => 1
  | .ptr d => uptoBulk d + 1
  | .slice elems spare => uptoBulkAll elems + uptoBulkAll spare + 1
  | .agg parts => uptoBulkAll parts + 1
  | .iface _ d => uptoBulk d + 1
  | .map entries => uptoBulkEntries entries + 1
  | .held _ => 1
def uptoBulkAll {H : Type} : List (DataW H) → Nat
  | [] => 0
  | d :: r => uptoBulk d + uptoBulkAll r
def uptoBulkEntries {H : Type} : List (Lit × DataW H) → Nat
  | [] => 0
  | x :: r => uptoBulkEntry x + uptoBulkEntries r
def uptoBulkEntry {H : Type} : Lit × DataW H → Nat
  | (.string bytes, d) => bytes.length + uptoBulk d + 1
  | (_, d) => uptoBulk d + 1
 end
def uptoSmall : (H : Type) → List (DataW H) → Bool := fun _ ds => decide (uptoBulkAll ds ≤ 1048576)
def OpenSpec.upto (s : _root_.Go.ChangeSpec) : _root_.Go.OpenSpec := { _root_.Go.OpenSpec.ofChange s with cond := some uptoSmall }

/-- 'gunnylaw20.PoolBest', WHERE WHAT IT READS IS OF BULK AT MOST 1048576: true; the input reads as it did. -/
def poolBestUptoRow : OpenClaim := { program := "ytheblkofemobdaagreat", sum := "d1e964c358860c8747111f5728dbbbcf45783e99a97433ce7726604df61099c8", func := "gunny/gunnylaw20.PoolBest", spec := "poolBest", unfollowed := true, recurses := true, apart := false, narrowed := true }
def PoolBestUptoSaid : Prop := poolBestUptoRow.holds Tryz.pinned (OpenSpec.upto poolBestSpec)

/-- 'gunnylaw20.PoolNone', WHERE WHAT IT READS IS OF BULK AT MOST 1048576: true; the input reads as it did. -/
def poolNoneUptoRow : OpenClaim := { program := "ytheblkofemobdaagreat", sum := "d1e964c358860c8747111f5728dbbbcf45783e99a97433ce7726604df61099c8", func := "gunny/gunnylaw20.PoolNone", spec := "poolNone", unfollowed := true, recurses := true, apart := false, narrowed := true }
def PoolNoneUptoSaid : Prop := poolNoneUptoRow.holds Tryz.pinned (OpenSpec.upto poolNoneSpec)

/-- 'gunnylaw20.PoolKeeps', WHERE WHAT IT READS IS OF BULK AT MOST 1048576: true; the input reads as it did. -/
def poolKeepsUptoRow : OpenClaim := { program := "ytheblkofemobdaagreat", sum := "d1e964c358860c8747111f5728dbbbcf45783e99a97433ce7726604df61099c8", func := "gunny/gunnylaw20.PoolKeeps", spec := "poolKeeps", unfollowed := true, recurses := true, apart := false, narrowed := true }
def PoolKeepsUptoSaid : Prop := poolKeepsUptoRow.holds Tryz.pinned (OpenSpec.upto poolKeepsSpec)

/-- 'gunnylaw21.MoveFits', WHERE WHAT IT READS IS OF BULK AT MOST 1048576: true; the input reads as it did. -/
def moveFitsUptoRow : OpenClaim := { program := "ytheblkofemobdaagreat", sum := "d1e964c358860c8747111f5728dbbbcf45783e99a97433ce7726604df61099c8", func := "gunny/gunnylaw21.MoveFits", spec := "moveFits", unfollowed := true, recurses := true, apart := false, narrowed := true }
def MoveFitsUptoSaid : Prop := moveFitsUptoRow.holds Tryz.pinned (OpenSpec.upto moveFitsSpec)

end Rows
end Go.Proofs.YtheblkofemobdaaGreat
