/-
  Text: the chapter's example.
-/
import Derived.Test.YtiidfgomfmfaoaaDoorT16
namespace Go.Proofs.YtiidfgomfmfaoaaDoor
open Go.RowKit
section
variable {w : World}
def liveOp : OpS := ⟨0, 3, 0, 4096, []⟩
def liveL : List UInt8 := [99, 111, 110, 102, 32, 56, 32, 48, 32, 52, 32, 55, 53, 10, 109, 97, 112, 32, 48, 120, 49, 48, 48, 48, 32, 114, 119, 10]
theorem live_put : putV 8 0 4 75 [] [liveOp] = liveL := by decide +kernel
theorem live_right : rightE 8 0 4 75 0 [liveOp] = 0 := by decide +kernel
theorem atOk_live : AtOk [liveOp] := by
  intro i
  match i with
  | 0 => decide
  | i + 1 => simp [OpS.none]

set_option maxRecDepth 100000 in
set_option maxHeartbeats 4000000 in
theorem lives_any (hT : Tab w) (hB : Brj w) : Calls Tryd.prog 6 #[] w (Pur w (.bool true)) := by
  have hb : Below w.heap.size w (w.alloc (.cells #[.int .i64 0, .int .i64 3, .int .i64 0, .int .u64 4096, .slice none 0 0] 38)) := (Below.refl _ w).alloc (Nat.le_refl _) _
  have hc := fun i => Holds.cellAny (heap_alloc_new w (.cells #[.int .i64 0, .int .i64 3, .int .i64 0, .int .u64 4096, .slice none 0 0] 38)) i
  have hp := put_any (w := w.alloc (.cells #[.int .i64 0, .int .i64 3, .int .i64 0, .int .u64 4096, .slice none 0 0] 38)) (hT.below hb) (hB.below hb) 8 0 4 75 none 0 0 [] rfl (fun i hi => absurd hi (by simp)) (some ⟨w.heap.size, 0, none⟩) 1 1 [liveOp] (by decide)
    ⟨rfl, by
      intro i hi
      obtain rfl : i = 0 := by omega
      exact ⟨w.heap.size, 0, .slice none 0 0, rfl, hc 0, hc 1, hc 2, hc 3, hc 4, none, 0, rfl, fun k hk => absurd hk (by simp [liveOp])⟩⟩ atOk_live
  rw [live_put, live_right] at hp
  unfold scriptV liveL at hp
  clear hc
  go_enter Tryd.func6, Tryd.ntmps6
  go_wp2_with fail
  refine hp.mono ?_
  rintro e w1 ⟨rfl, hb1⟩
  go_wp2
  go_ret
  exact ⟨rfl, hb.trans (hb1.mono hb.size)⟩
end
end Go.Proofs.YtiidfgomfmfaoaaDoor
