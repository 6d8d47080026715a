/-
  Text: which ops may be.
-/
import Derived.Test.YtiidfgomfmfaoaaDoorT7
namespace Go.Proofs.YtiidfgomfmfaoaaDoor
open Go.RowKit

/-- Which fields a kind has: perm, at, n, data. -/
def fieldsB (k : Int) : Bool × Bool × Bool × Bool :=
  (k == 0 || k == 2, k == 0 || k == 1 || k == 2 || k == 3 || k == 4 || k == 5, k == 3 || k == 5 || k == 6 || k == 8 || k == 10, k == 4)
theorem kind_cases (k : Int) : k = 0 ∨ k = 1 ∨ k = 2 ∨ k = 3 ∨ k = 4 ∨ k = 5 ∨ k = 6 ∨ k = 7 ∨ k = 8 ∨ k = 9 ∨ k = 10 ∨ (k ≠ 0 ∧ k ≠ 1 ∧ k ≠ 2 ∧ k ≠ 3 ∧ k ≠ 4 ∧ k ≠ 5 ∧ k ≠ 6 ∧ k ≠ 8 ∧ k ≠ 10 ∧ (k < 0 ∨ (0 ≤ k ∧ 11 ≤ k))) := by omega
def hasV (f : Bool × Bool × Bool × Bool) : Value := .agg #[.bool f.1, .bool f.2.1, .bool f.2.2.1, .bool f.2.2.2]

section
variable {w : World}
set_option maxRecDepth 100000 in
set_option maxHeartbeats 4000000 in
theorem fields_any (k : Int) : Calls Tryd.prog 40 #[.int .i64 k] w (Pur w (hasV (fieldsB k))) := by
  rcases kind_cases k with rfl | rfl | rfl | rfl | rfl | rfl | rfl | rfl | rfl | rfl | rfl | ⟨h0, h1, h2, h3, h4, h5, h6, h8, h10, _⟩
  case inr.inr.inr.inr.inr.inr.inr.inr.inr.inr.inr =>
    have g0 : (k == 0) = false := by simp [h0]
    have g1 : (k == 1) = false := by simp [h1]
    have g2 : (k == 2) = false := by simp [h2]
    have g3 : (k == 3) = false := by simp [h3]
    have g4 : (k == 4) = false := by simp [h4]
    have g5 : (k == 5) = false := by simp [h5]
    have g6 : (k == 6) = false := by simp [h6]
    have g8 : (k == 8) = false := by simp [h8]
    have g10 : (k == 10) = false := by simp [h10]
    unfold fieldsB
    rw [g0, g1, g2, g3, g4, g5, g6, g8, g10]
    clear h0 h1 h2 h3 h4 h5 h6 h8 h10
    go_enter Tryd.func40, Tryd.ntmps40
    go_wp2
    exact bodyPost_ret (by simp [results, Tryd.results40, go_sem] <;> rfl) rfl ⟨rfl, ((Below.refl _ w).alloc (Nat.le_refl _) _).alloc (by simp) _⟩
  all_goals
    go_enter Tryd.func40, Tryd.ntmps40
    go_wp2
    exact bodyPost_ret (by simp [results, Tryd.results40, go_sem] <;> rfl) rfl ⟨rfl, ((Below.refl _ w).alloc (Nat.le_refl _) _).alloc (by simp) _⟩

set_option maxRecDepth 100000 in
set_option maxHeartbeats 4000000 in
theorem refHas_any (k : Int) : Calls Tryd.prog 22 #[.int .i64 k] w (Pur w (hasV (fieldsB k))) := by
  rcases kind_cases k with rfl | rfl | rfl | rfl | rfl | rfl | rfl | rfl | rfl | rfl | rfl | ⟨h0, h1, h2, h3, h4, h5, h6, h8, h10, _⟩
  case inr.inr.inr.inr.inr.inr.inr.inr.inr.inr.inr =>
    have g0 : (k == 0) = false := by simp [h0]
    have g1 : (k == 1) = false := by simp [h1]
    have g2 : (k == 2) = false := by simp [h2]
    have g3 : (k == 3) = false := by simp [h3]
    have g4 : (k == 4) = false := by simp [h4]
    have g5 : (k == 5) = false := by simp [h5]
    have g6 : (k == 6) = false := by simp [h6]
    have g8 : (k == 8) = false := by simp [h8]
    have g10 : (k == 10) = false := by simp [h10]
    unfold fieldsB
    rw [g0, g1, g2, g3, g4, g5, g6, g8, g10]
    clear h0 h1 h2 h3 h4 h5 h6 h8 h10
    go_enter Tryd.func22, Tryd.ntmps22
    go_wp2
    exact bodyPost_ret (by simp [results, Tryd.results22, go_sem] <;> rfl) rfl ⟨rfl, (Below.refl _ w).alloc (Nat.le_refl _) _⟩
  all_goals
    go_enter Tryd.func22, Tryd.ntmps22
    go_wp2
    exact bodyPost_ret (by simp [results, Tryd.results22, go_sem] <;> rfl) rfl ⟨rfl, (Below.refl _ w).alloc (Nat.le_refl _) _⟩

def withinB (x : Int) (is : Bool) : Bool := if is then decide (0 ≤ x) && decide (x ≤ 255) else x == 0
set_option maxHeartbeats 400000 in
theorem within_any (x : Int) (is : Bool) : Calls Tryd.prog 41 #[.int .i64 x, .bool is] w (Pur w (.bool (withinB x is))) := by
  cases is
  · unfold withinB
    simp only [if_neg Bool.false_ne_true]
    generalize hq : (x == 0) = q
    go_enter Tryd.func41, Tryd.ntmps41
    go_wp2
    go_ret
    exact ⟨rfl, Below.refl _ _⟩
  · unfold withinB
    simp only [if_true]
    rcases (by omega : x < 0 ∨ (0 ≤ x ∧ x ≤ 255) ∨ (0 ≤ x ∧ 255 < x)) with h | ⟨h, h2⟩ | ⟨h, h2⟩
    all_goals
      go_enter Tryd.func41, Tryd.ntmps41
      go_wp2
      go_ret
      exact ⟨by simp <;> omega, Below.refl _ _⟩
theorem refmay_eq (x : Int) (is : Bool) : Calls Tryd.prog 23 #[.int .i64 x, .bool is] w (Pur w (.bool (withinB x is))) := by
  cases is
  · unfold withinB
    simp only [if_neg Bool.false_ne_true]
    cases hq : x == 0
    all_goals
      go_enter Tryd.func23, Tryd.ntmps23
      go_wp2
      go_ret
      exact ⟨rfl, Below.refl _ _⟩
  · unfold withinB
    simp only [if_true]
    rcases (by omega : x < 0 ∨ x = 0 ∨ (0 < x ∧ x ≤ 255) ∨ (0 ≤ x ∧ 255 < x)) with h | rfl | ⟨h, h2⟩ | ⟨h, h2⟩
    · have hq : (x == 0) = false := by simp; omega
      go_enter Tryd.func23, Tryd.ntmps23
      go_wp2
      go_ret
      exact ⟨by simp <;> omega, Below.refl _ _⟩
    · go_enter Tryd.func23, Tryd.ntmps23
      go_wp2
      go_ret
      exact ⟨rfl, Below.refl _ _⟩
    · have hq : (x == 0) = false := by simp; omega
      go_enter Tryd.func23, Tryd.ntmps23
      go_wp2
      go_ret
      exact ⟨by simp <;> omega, Below.refl _ _⟩
    · have hq : (x == 0) = false := by simp; omega
      go_enter Tryd.func23, Tryd.ntmps23
      go_wp2
      go_ret
      exact ⟨by simp <;> omega, Below.refl _ _⟩
end
end Go.Proofs.YtiidfgomfmfaoaaDoor
