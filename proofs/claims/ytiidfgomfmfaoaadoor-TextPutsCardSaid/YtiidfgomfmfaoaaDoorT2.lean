/-
  Text: perms' words.
-/
import Derived.Test.YtiidfgomfmfaoaaDoorT1
namespace Go.Proofs.YtiidfgomfmfaoaaDoor
open Go.RowKit

def permL (p : Int) : List UInt8 := (if p % 2 = 1 then [114] else []) ++ (if p / 2 % 2 = 1 then [119] else []) ++ (if p / 4 = 1 then [120] else [])
def permW (p : Int) : List UInt8 := if p < 0 ∨ 255 < p then [] else if mayP p = true then permL p else Lib.itoa p

section
variable {w : World}
theorem pur_below {v : Value} {w0 : World} {f : FuncId} {args : Array Value} (hb : Below w0.heap.size w0 w) (h : Calls Tryd.prog f args w (Pur w v)) : Calls Tryd.prog f args w fun e w' => e = .returned v ∧ Below w0.heap.size w0 w' :=
  h.mono fun _ _ ⟨h1, h2⟩ => ⟨h1, hb.trans (h2.mono hb.size)⟩


set_option maxRecDepth 100000 in
set_option maxHeartbeats 2000000 in
theorem perm_1 : Calls Tryd.prog 13 #[.int .i64 1] w (Pur w ((Value.string ⟨List.toArray ([114])⟩))) := by
  have cm := pteMay (w := w) 1
  rw [show mayP 1 = true from rfl] at cm
  have h1 : (bits BinOp.and IntKind.i64 1 1 != 0) = decide ((1 : Int) % 2 = 1) := by decide
  have h2 : (bits BinOp.and IntKind.i64 1 2 != 0) = decide ((1 : Int) / 2 % 2 = 1) := by decide
  have h3 : (bits BinOp.and IntKind.i64 1 4 != 0) = decide ((1 : Int) / 4 = 1) := by decide
  simp at h1 h2 h3
  go_enter Tryd.func13, Tryd.ntmps13
  go_wp2_with fail
  refine cm.mono ?_
  rintro e w1 ⟨rfl, hb⟩
  go_wp2
  refine wp_loop_rounds 4 ?_
  iterate 4
    rw [rounds_succ]
    go_wp2
  go_ret
  exact ⟨by first | rfl | decide, (hb.alloc hb.size _)⟩
set_option maxRecDepth 100000 in
set_option maxHeartbeats 2000000 in
theorem perm_3 : Calls Tryd.prog 13 #[.int .i64 3] w (Pur w ((Value.string ⟨List.toArray ([114, 119])⟩))) := by
  have cm := pteMay (w := w) 3
  rw [show mayP 3 = true from rfl] at cm
  have h1 : (bits BinOp.and IntKind.i64 3 1 != 0) = decide ((3 : Int) % 2 = 1) := by decide
  have h2 : (bits BinOp.and IntKind.i64 3 2 != 0) = decide ((3 : Int) / 2 % 2 = 1) := by decide
  have h3 : (bits BinOp.and IntKind.i64 3 4 != 0) = decide ((3 : Int) / 4 = 1) := by decide
  simp at h1 h2 h3
  go_enter Tryd.func13, Tryd.ntmps13
  go_wp2_with fail
  refine cm.mono ?_
  rintro e w1 ⟨rfl, hb⟩
  go_wp2
  refine wp_loop_rounds 4 ?_
  iterate 4
    rw [rounds_succ]
    go_wp2
  go_ret
  exact ⟨by first | rfl | decide, (hb.alloc hb.size _)⟩
set_option maxRecDepth 100000 in
set_option maxHeartbeats 2000000 in
theorem perm_4 : Calls Tryd.prog 13 #[.int .i64 4] w (Pur w ((Value.string ⟨List.toArray ([120])⟩))) := by
  have cm := pteMay (w := w) 4
  rw [show mayP 4 = true from rfl] at cm
  have h1 : (bits BinOp.and IntKind.i64 4 1 != 0) = decide ((4 : Int) % 2 = 1) := by decide
  have h2 : (bits BinOp.and IntKind.i64 4 2 != 0) = decide ((4 : Int) / 2 % 2 = 1) := by decide
  have h3 : (bits BinOp.and IntKind.i64 4 4 != 0) = decide ((4 : Int) / 4 = 1) := by decide
  simp at h1 h2 h3
  go_enter Tryd.func13, Tryd.ntmps13
  go_wp2_with fail
  refine cm.mono ?_
  rintro e w1 ⟨rfl, hb⟩
  go_wp2
  refine wp_loop_rounds 4 ?_
  iterate 4
    rw [rounds_succ]
    go_wp2
  go_ret
  exact ⟨by first | rfl | decide, (hb.alloc hb.size _)⟩
set_option maxRecDepth 100000 in
set_option maxHeartbeats 2000000 in
theorem perm_5 : Calls Tryd.prog 13 #[.int .i64 5] w (Pur w ((Value.string ⟨List.toArray ([114, 120])⟩))) := by
  have cm := pteMay (w := w) 5
  rw [show mayP 5 = true from rfl] at cm
  have h1 : (bits BinOp.and IntKind.i64 5 1 != 0) = decide ((5 : Int) % 2 = 1) := by decide
  have h2 : (bits BinOp.and IntKind.i64 5 2 != 0) = decide ((5 : Int) / 2 % 2 = 1) := by decide
  have h3 : (bits BinOp.and IntKind.i64 5 4 != 0) = decide ((5 : Int) / 4 = 1) := by decide
  simp at h1 h2 h3
  go_enter Tryd.func13, Tryd.ntmps13
  go_wp2_with fail
  refine cm.mono ?_
  rintro e w1 ⟨rfl, hb⟩
  go_wp2
  refine wp_loop_rounds 4 ?_
  iterate 4
    rw [rounds_succ]
    go_wp2
  go_ret
  exact ⟨by first | rfl | decide, (hb.alloc hb.size _)⟩
set_option maxRecDepth 100000 in
set_option maxHeartbeats 2000000 in
theorem perm_7 : Calls Tryd.prog 13 #[.int .i64 7] w (Pur w ((Value.string ⟨List.toArray ([114, 119, 120])⟩))) := by
  have cm := pteMay (w := w) 7
  rw [show mayP 7 = true from rfl] at cm
  have h1 : (bits BinOp.and IntKind.i64 7 1 != 0) = decide ((7 : Int) % 2 = 1) := by decide
  have h2 : (bits BinOp.and IntKind.i64 7 2 != 0) = decide ((7 : Int) / 2 % 2 = 1) := by decide
  have h3 : (bits BinOp.and IntKind.i64 7 4 != 0) = decide ((7 : Int) / 4 = 1) := by decide
  simp at h1 h2 h3
  go_enter Tryd.func13, Tryd.ntmps13
  go_wp2_with fail
  refine cm.mono ?_
  rintro e w1 ⟨rfl, hb⟩
  go_wp2
  refine wp_loop_rounds 4 ?_
  iterate 4
    rw [rounds_succ]
    go_wp2
  go_ret
  exact ⟨by first | rfl | decide, (hb.alloc hb.size _)⟩
end
end Go.Proofs.YtiidfgomfmfaoaaDoor
