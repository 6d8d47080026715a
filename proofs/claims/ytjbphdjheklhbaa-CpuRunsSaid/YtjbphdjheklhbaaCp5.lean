/-
  Package cpu: which instruction is done.
-/
import Derived.Test.YtjbphdjheklhbaaCp4
namespace Go.Proofs.Ytjbphdjheklhbaa
open Go.RowKit

/-- What an instruction does, as a value. -/
def insF : Nat → Nat
  | 0 => 69
  | 1 => 70
  | 2 => 71
  | 3 => 72
  | 4 => 73
  | 5 => 74
  | 6 => 75
  | _ => 76
def insFV (k : Nat) : Value := .func (.func (insF k)) #[] #[]
section
variable {w : World}
set_option maxRecDepth 100000 in
theorem cpuDoing0 : Calls Try.prog 57 #[.int .i64 0] w (Quiet w (insFV 0)) := by
  have h : ∀ w, (Instr.index 152 (.agg #[.func (.func 69) #[] #[], .func (.func 70) #[] #[], .func (.func 71) #[] #[], .func (.func 72) #[] #[], .func (.func 73) #[] #[], .func (.func 74) #[] #[], .func (.func 75) #[] #[], .func (.func 76) #[] #[]]) (.int .i64 0)).run Try.prog w = .ok (.func (.func 69) #[] #[]) w := fun w => by kernel_rfl
  go_enter Try.func57, Try.ntmps57
  go_wp2_with fail
  go_ret
  exact ⟨rfl, 0, rfl⟩
set_option maxRecDepth 100000 in
theorem cpuDoing1 : Calls Try.prog 57 #[.int .i64 1] w (Quiet w (insFV 1)) := by
  have h : ∀ w, (Instr.index 152 (.agg #[.func (.func 69) #[] #[], .func (.func 70) #[] #[], .func (.func 71) #[] #[], .func (.func 72) #[] #[], .func (.func 73) #[] #[], .func (.func 74) #[] #[], .func (.func 75) #[] #[], .func (.func 76) #[] #[]]) (.int .i64 1)).run Try.prog w = .ok (.func (.func 70) #[] #[]) w := fun w => by kernel_rfl
  go_enter Try.func57, Try.ntmps57
  go_wp2_with fail
  go_ret
  exact ⟨rfl, 0, rfl⟩
set_option maxRecDepth 100000 in
theorem cpuDoing2 : Calls Try.prog 57 #[.int .i64 2] w (Quiet w (insFV 2)) := by
  have h : ∀ w, (Instr.index 152 (.agg #[.func (.func 69) #[] #[], .func (.func 70) #[] #[], .func (.func 71) #[] #[], .func (.func 72) #[] #[], .func (.func 73) #[] #[], .func (.func 74) #[] #[], .func (.func 75) #[] #[], .func (.func 76) #[] #[]]) (.int .i64 2)).run Try.prog w = .ok (.func (.func 71) #[] #[]) w := fun w => by kernel_rfl
  go_enter Try.func57, Try.ntmps57
  go_wp2_with fail
  go_ret
  exact ⟨rfl, 0, rfl⟩
set_option maxRecDepth 100000 in
theorem cpuDoing3 : Calls Try.prog 57 #[.int .i64 3] w (Quiet w (insFV 3)) := by
  have h : ∀ w, (Instr.index 152 (.agg #[.func (.func 69) #[] #[], .func (.func 70) #[] #[], .func (.func 71) #[] #[], .func (.func 72) #[] #[], .func (.func 73) #[] #[], .func (.func 74) #[] #[], .func (.func 75) #[] #[], .func (.func 76) #[] #[]]) (.int .i64 3)).run Try.prog w = .ok (.func (.func 72) #[] #[]) w := fun w => by kernel_rfl
  go_enter Try.func57, Try.ntmps57
  go_wp2_with fail
  go_ret
  exact ⟨rfl, 0, rfl⟩
set_option maxRecDepth 100000 in
theorem cpuDoing4 : Calls Try.prog 57 #[.int .i64 4] w (Quiet w (insFV 4)) := by
  have h : ∀ w, (Instr.index 152 (.agg #[.func (.func 69) #[] #[], .func (.func 70) #[] #[], .func (.func 71) #[] #[], .func (.func 72) #[] #[], .func (.func 73) #[] #[], .func (.func 74) #[] #[], .func (.func 75) #[] #[], .func (.func 76) #[] #[]]) (.int .i64 4)).run Try.prog w = .ok (.func (.func 73) #[] #[]) w := fun w => by kernel_rfl
  go_enter Try.func57, Try.ntmps57
  go_wp2_with fail
  go_ret
  exact ⟨rfl, 0, rfl⟩
set_option maxRecDepth 100000 in
theorem cpuDoing5 : Calls Try.prog 57 #[.int .i64 5] w (Quiet w (insFV 5)) := by
  have h : ∀ w, (Instr.index 152 (.agg #[.func (.func 69) #[] #[], .func (.func 70) #[] #[], .func (.func 71) #[] #[], .func (.func 72) #[] #[], .func (.func 73) #[] #[], .func (.func 74) #[] #[], .func (.func 75) #[] #[], .func (.func 76) #[] #[]]) (.int .i64 5)).run Try.prog w = .ok (.func (.func 74) #[] #[]) w := fun w => by kernel_rfl
  go_enter Try.func57, Try.ntmps57
  go_wp2_with fail
  go_ret
  exact ⟨rfl, 0, rfl⟩
set_option maxRecDepth 100000 in
theorem cpuDoing6 : Calls Try.prog 57 #[.int .i64 6] w (Quiet w (insFV 6)) := by
  have h : ∀ w, (Instr.index 152 (.agg #[.func (.func 69) #[] #[], .func (.func 70) #[] #[], .func (.func 71) #[] #[], .func (.func 72) #[] #[], .func (.func 73) #[] #[], .func (.func 74) #[] #[], .func (.func 75) #[] #[], .func (.func 76) #[] #[]]) (.int .i64 6)).run Try.prog w = .ok (.func (.func 75) #[] #[]) w := fun w => by kernel_rfl
  go_enter Try.func57, Try.ntmps57
  go_wp2_with fail
  go_ret
  exact ⟨rfl, 0, rfl⟩
set_option maxRecDepth 100000 in
theorem cpuDoing7 : Calls Try.prog 57 #[.int .i64 7] w (Quiet w (insFV 7)) := by
  have h : ∀ w, (Instr.index 152 (.agg #[.func (.func 69) #[] #[], .func (.func 70) #[] #[], .func (.func 71) #[] #[], .func (.func 72) #[] #[], .func (.func 73) #[] #[], .func (.func 74) #[] #[], .func (.func 75) #[] #[], .func (.func 76) #[] #[]]) (.int .i64 7)).run Try.prog w = .ok (.func (.func 76) #[] #[]) w := fun w => by kernel_rfl
  go_enter Try.func57, Try.ntmps57
  go_wp2_with fail
  go_ret
  exact ⟨rfl, 0, rfl⟩
theorem cpuDoing (k : Nat) (h : k < 8) : Calls Try.prog 57 #[.int .i64 k] w (Quiet w (insFV k)) := by
  match k, h with
  | 0, _ => exact cpuDoing0
  | 1, _ => exact cpuDoing1
  | 2, _ => exact cpuDoing2
  | 3, _ => exact cpuDoing3
  | 4, _ => exact cpuDoing4
  | 5, _ => exact cpuDoing5
  | 6, _ => exact cpuDoing6
  | 7, _ => exact cpuDoing7
end
end Go.Proofs.Ytjbphdjheklhbaa
