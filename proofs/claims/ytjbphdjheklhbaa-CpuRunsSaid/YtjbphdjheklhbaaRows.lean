/-
  No cell of these rows narrows 'for every input' (looked for: loops, veiled, ifaces, maps, wideKeys, modest, calm, conditions, laid).
  DERIVED. THE GIVEN ROWS OF THIS SEAT. 5 by the template 'for every input the law returns true; each argument reads behind the call as it read before'; 0 by the template 'total and deterministic' (their statements: YtjbphdjheklhbaaTotals.lean).
  GIVEN WITH THE SEED: the statements are not yours to turn. If you find one false, say at which input.
  Laid BY PROGRAM, IN A SANDBOX (cutbox-rows.mjs): the forced cells as the released guide's own fill.sh prints them over the translation c138f21966cdd88c… (all of the seat's roots in one cut). By AI agents, Wed Nov 11 2026. No macro, syntax, notation, axiom, sorry.
-/
import Derived.Test.YtjbphdjheklhbaaChecked
import GoSem.Claim
import GoSem.ClaimJoined
import GoSem.ClaimMapViews
import Derived.JoinedTies
import Derived.KernelRfl
namespace Go.Proofs.Ytjbphdjheklhbaa
/- THE CELL 'sum', in the pinned program and in every row, IS THE sha256 OF THE DUMP (.gsa) THAT YtjbphdjheklhbaaProg.lean LOADS. Nothing in Lean hashes anything: it is a label: what it is worth is what the hold of that sum in a sandbox is worth. -/
noncomputable def Try.pinned : Pinned := { name := "ytjbphdjheklhbaa", sum := "c138f21966cdd88c1e1dcbf2bbc11c1ab4eb2da50b830310850555c8ca3e2a85", checked := Try.checked }
namespace Rows
def none {H : Type} : Left H := { results := [], args := [] }

/-- 'gunnylaw47.HeapOpens': WHATEVER THE INPUT: true; the input reads as it did. -/
def heapOpensSpec : ChangeSpec := { name := "heapOpens", fn := fun _ => fun
  | [d1, d2] => { results := [.lit (.bool true)], args := [d1, d2] }
  | _ => none }
def heapOpensRow : OpenClaim := { program := "ytjbphdjheklhbaa", sum := "c138f21966cdd88c1e1dcbf2bbc11c1ab4eb2da50b830310850555c8ca3e2a85", func := "gunny/gunnylaw47.HeapOpens", spec := "heapOpens", unfollowed := true, recurses := true, apart := false }
def HeapOpensSaid : Prop := heapOpensRow.holds Try.pinned (OpenSpec.ofChange heapOpensSpec)

/-- ITS FALSE NEIGHBOUR: 'it returns false'. Refute it at one input. -/
def heapOpensWrong : ChangeSpec := { name := "heapOpens", fn := fun _ => fun
  | [d1, d2] => { results := [.lit (.bool false)], args := [d1, d2] }
  | _ => none }
def HeapOpensWrongFalsely : Prop := heapOpensRow.holds Try.pinned (OpenSpec.ofChange heapOpensWrong)

/-- 'gunnylaw47.HeapApart': WHATEVER THE INPUT: true; the input reads as it did. -/
def heapApartSpec : ChangeSpec := { name := "heapApart", fn := fun _ => fun
  | [d1, d2] => { results := [.lit (.bool true)], args := [d1, d2] }
  | _ => none }
def heapApartRow : OpenClaim := { program := "ytjbphdjheklhbaa", sum := "c138f21966cdd88c1e1dcbf2bbc11c1ab4eb2da50b830310850555c8ca3e2a85", func := "gunny/gunnylaw47.HeapApart", spec := "heapApart", unfollowed := true, recurses := true, apart := false }
def HeapApartSaid : Prop := heapApartRow.holds Try.pinned (OpenSpec.ofChange heapApartSpec)

/-- ITS FALSE NEIGHBOUR: 'it returns false'. Refute it at one input. -/
def heapApartWrong : ChangeSpec := { name := "heapApart", fn := fun _ => fun
  | [d1, d2] => { results := [.lit (.bool false)], args := [d1, d2] }
  | _ => none }
def HeapApartWrongFalsely : Prop := heapApartRow.holds Try.pinned (OpenSpec.ofChange heapApartWrong)

/-- 'gunnylaw47.HeapPlays': WHATEVER THE INPUT: true; the input reads as it did. -/
def heapPlaysSpec : ChangeSpec := { name := "heapPlays", fn := fun _ => fun
  | [d1, d2, d3] => { results := [.lit (.bool true)], args := [d1, d2, d3] }
  | _ => none }
def heapPlaysRow : OpenClaim := { program := "ytjbphdjheklhbaa", sum := "c138f21966cdd88c1e1dcbf2bbc11c1ab4eb2da50b830310850555c8ca3e2a85", func := "gunny/gunnylaw47.HeapPlays", spec := "heapPlays", unfollowed := true, recurses := true, apart := false }
def HeapPlaysSaid : Prop := heapPlaysRow.holds Try.pinned (OpenSpec.ofChange heapPlaysSpec)

/-- ITS FALSE NEIGHBOUR: 'it returns false'. Refute it at one input. -/
def heapPlaysWrong : ChangeSpec := { name := "heapPlays", fn := fun _ => fun
  | [d1, d2, d3] => { results := [.lit (.bool false)], args := [d1, d2, d3] }
  | _ => none }
def HeapPlaysWrongFalsely : Prop := heapPlaysRow.holds Try.pinned (OpenSpec.ofChange heapPlaysWrong)

/-- 'gunnylaw48.CpuBytes': WHATEVER THE INPUT: true; the input reads as it did. -/
def cpuBytesSpec : ChangeSpec := { name := "cpuBytes", fn := fun _ => fun
  | [d1, d2] => { results := [.lit (.bool true)], args := [d1, d2] }
  | _ => none }
def cpuBytesRow : OpenClaim := { program := "ytjbphdjheklhbaa", sum := "c138f21966cdd88c1e1dcbf2bbc11c1ab4eb2da50b830310850555c8ca3e2a85", func := "gunny/gunnylaw48.CpuBytes", spec := "cpuBytes", unfollowed := true, recurses := true, apart := false }
def CpuBytesSaid : Prop := cpuBytesRow.holds Try.pinned (OpenSpec.ofChange cpuBytesSpec)

/-- ITS FALSE NEIGHBOUR: 'it returns false'. Refute it at one input. -/
def cpuBytesWrong : ChangeSpec := { name := "cpuBytes", fn := fun _ => fun
  | [d1, d2] => { results := [.lit (.bool false)], args := [d1, d2] }
  | _ => none }
def CpuBytesWrongFalsely : Prop := cpuBytesRow.holds Try.pinned (OpenSpec.ofChange cpuBytesWrong)

/-- 'gunnylaw48.CpuRuns': WHATEVER THE INPUT: true; the input reads as it did. -/
def cpuRunsSpec : ChangeSpec := { name := "cpuRuns", fn := fun _ => fun
  | [d1, d2] => { results := [.lit (.bool true)], args := [d1, d2] }
  | _ => none }
def cpuRunsRow : OpenClaim := { program := "ytjbphdjheklhbaa", sum := "c138f21966cdd88c1e1dcbf2bbc11c1ab4eb2da50b830310850555c8ca3e2a85", func := "gunny/gunnylaw48.CpuRuns", spec := "cpuRuns", unfollowed := true, recurses := true, apart := false }
def CpuRunsSaid : Prop := cpuRunsRow.holds Try.pinned (OpenSpec.ofChange cpuRunsSpec)

/-- ITS FALSE NEIGHBOUR: 'it returns false'. Refute it at one input. -/
def cpuRunsWrong : ChangeSpec := { name := "cpuRuns", fn := fun _ => fun
  | [d1, d2] => { results := [.lit (.bool false)], args := [d1, d2] }
  | _ => none }
def CpuRunsWrongFalsely : Prop := cpuRunsRow.holds Try.pinned (OpenSpec.ofChange cpuRunsWrong)

/- THE SECOND FORM. 'bulk': how many values and letters a reading holds, each counted each time it is reached (what is shared counts as often as it is met; a slice's spare places count too). A statement '..UptoSaid' is the law's where the arguments, and the package variables that the reading takes, are together of bulk at most 1048576: NARROWER than '..Said'. Prove '..Said' where nothing that the law and all that it calls make is longer than what came in: it says more and counts as full. Else prove '..UptoSaid'. A law counts once. -/
mutual
def uptoBulk {H : Type} : DataW H → Nat
  | .lit (.string bytes) => bytes.length + 1
  | .lit _ => 1
  | .nil => 1
  | .ptr d => uptoBulk d + 1
  | .slice elems spare => uptoBulkAll elems + uptoBulkAll spare + 1
  | .agg parts => uptoBulkAll parts + 1
  | .iface _ d => uptoBulk d + 1
  | .map entries => uptoBulkEntries entries + 1
  | .held _ => 1
def uptoBulkAll {H : Type} : List (DataW H) → Nat
  | [] => 0
  | d :: r => uptoBulk d + uptoBulkAll r
def uptoBulkEntries {H : Type} : List (Lit × DataW H) → Nat
  | [] => 0
  | x :: r => uptoBulkEntry x + uptoBulkEntries r
def uptoBulkEntry {H : Type} : Lit × DataW H → Nat
  | (.string bytes, d) => bytes.length + uptoBulk d + 1
  | (_, d) => uptoBulk d + 1
 end
def uptoSmall : (H : Type) → List (DataW H) → Bool := fun _ ds => decide (uptoBulkAll ds ≤ 1048576)
def OpenSpec.upto (s : _root_.Go.ChangeSpec) : _root_.Go.OpenSpec := { _root_.Go.OpenSpec.ofChange s with cond := some uptoSmall }

/-- 'gunnylaw47.HeapOpens', WHERE WHAT IT READS IS OF BULK AT MOST 1048576: true; the input reads as it did. -/
def heapOpensUptoRow : OpenClaim := { program := "ytjbphdjheklhbaa", sum := "c138f21966cdd88c1e1dcbf2bbc11c1ab4eb2da50b830310850555c8ca3e2a85", func := "gunny/gunnylaw47.HeapOpens", spec := "heapOpens", unfollowed := true, recurses := true, apart := false, narrowed := true }
def HeapOpensUptoSaid : Prop := heapOpensUptoRow.holds Try.pinned (OpenSpec.upto heapOpensSpec)

/-- 'gunnylaw47.HeapApart', WHERE WHAT IT READS IS OF BULK AT MOST 1048576: true; the input reads as it did. -/
def heapApartUptoRow : OpenClaim := { program := "ytjbphdjheklhbaa", sum := "c138f21966cdd88c1e1dcbf2bbc11c1ab4eb2da50b830310850555c8ca3e2a85", func := "gunny/gunnylaw47.HeapApart", spec := "heapApart", unfollowed := true, recurses := true, apart := false, narrowed := true }
def HeapApartUptoSaid : Prop := heapApartUptoRow.holds Try.pinned (OpenSpec.upto heapApartSpec)

/-- 'gunnylaw47.HeapPlays', WHERE WHAT IT READS IS OF BULK AT MOST 1048576: true; the input reads as it did. -/
def heapPlaysUptoRow : OpenClaim := { program := "ytjbphdjheklhbaa", sum := "c138f21966cdd88c1e1dcbf2bbc11c1ab4eb2da50b830310850555c8ca3e2a85", func := "gunny/gunnylaw47.HeapPlays", spec := "heapPlays", unfollowed := true, recurses := true, apart := false, narrowed := true }
def HeapPlaysUptoSaid : Prop := heapPlaysUptoRow.holds Try.pinned (OpenSpec.upto heapPlaysSpec)

/-- 'gunnylaw48.CpuBytes', WHERE WHAT IT READS IS OF BULK AT MOST 1048576: true; the input reads as it did. -/
def cpuBytesUptoRow : OpenClaim := { program := "ytjbphdjheklhbaa", sum := "c138f21966cdd88c1e1dcbf2bbc11c1ab4eb2da50b830310850555c8ca3e2a85", func := "gunny/gunnylaw48.CpuBytes", spec := "cpuBytes", unfollowed := true, recurses := true, apart := false, narrowed := true }
def CpuBytesUptoSaid : Prop := cpuBytesUptoRow.holds Try.pinned (OpenSpec.upto cpuBytesSpec)

/-- 'gunnylaw48.CpuRuns', WHERE WHAT IT READS IS OF BULK AT MOST 1048576: true; the input reads as it did. -/
def cpuRunsUptoRow : OpenClaim := { program := "ytjbphdjheklhbaa", sum := "c138f21966cdd88c1e1dcbf2bbc11c1ab4eb2da50b830310850555c8ca3e2a85", func := "gunny/gunnylaw48.CpuRuns", spec := "cpuRuns", unfollowed := true, recurses := true, apart := false, narrowed := true }
def CpuRunsUptoSaid : Prop := cpuRunsUptoRow.holds Try.pinned (OpenSpec.upto cpuRunsSpec)

end Rows
end Go.Proofs.Ytjbphdjheklhbaa
