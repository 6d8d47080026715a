/-
  Text: numbers and perms.
-/
import Derived.Test.YtiidfgomfmfaoaaDoorFlat
import Derived.Test.YtiidfgomfmfaoaaDoorTShelf
import Derived.Lib.SmallJoins
import Derived.Lib.ItoaNum
import Derived.Lib.AppendIntMem
import Derived.BigQuiet
namespace Go.Proofs.YtiidfgomfmfaoaaDoor
open Go.RowKit

/-- A call that answers v, and turns nothing that lay. -/
def Pur (w : World) (v : Value) : Ending → World → Prop := fun en w' => en = .returned v ∧ Below w.heap.size w w'
/-- The library's table of powers of ten lies in the world. -/
def Tab (w : World) : Prop := Lib.TabIs Tryd.prog w "internal/strconv.uint64pow10" .u64 Lib.pow10Tab
theorem Tab.below {w w' : World} (h : Tab w) (hb : Below w.heap.size w w') : Tab w' := Go.Joins.tab_stays (g := 1) (by kernel_rfl) h hb (Nat.le_refl _)

section
variable {w : World}
theorem number_any (hT : Tab w) (n : Int) (h0 : -9223372036854775808 ≤ n) (h1 : n ≤ 9223372036854775807) : Calls Tryd.prog 20 #[.int .i64 n] w (Pur w ((Value.string ⟨List.toArray (Lib.itoa n)⟩))) := by
  go_enter Tryd.func20, Tryd.ntmps20
  go_wp2_with fail
  refine (Tryd.strconv_Itoa n h0 h1 w hT).mono ?_
  rintro e w1 ⟨rfl, k, os, rfl⟩
  go_wp2
  go_ret
  exact ⟨rfl, Lib.below_grow _ _ (Nat.le_refl _) _ _⟩

def mayP (p : Int) : Bool := p == 1 || p == 3 || p == 4 || p == 5 || p == 7
theorem mayP_cases (p : Int) : (p = 1 ∧ mayP p = true) ∨ (p = 3 ∧ mayP p = true) ∨ (p = 4 ∧ mayP p = true) ∨ (p = 5 ∧ mayP p = true) ∨ (p = 7 ∧ mayP p = true) ∨ (p ≠ 1 ∧ p ≠ 3 ∧ p ≠ 4 ∧ p ≠ 5 ∧ p ≠ 7 ∧ mayP p = false) := by
  by_cases h1 : p = 1
  · subst h1; decide
  by_cases h3 : p = 3
  · subst h3; decide
  by_cases h4 : p = 4
  · subst h4; decide
  by_cases h5 : p = 5
  · subst h5; decide
  by_cases h7 : p = 7
  · subst h7; decide
  · exact .inr (.inr (.inr (.inr (.inr ⟨h1, h3, h4, h5, h7, by simp [mayP, h1, h3, h4, h5, h7]⟩))))

set_option maxHeartbeats 1000000 in
theorem pteMay (p : Int) : Calls Tryd.prog 29 #[.int .i64 p] w (Pur w (.bool (mayP p))) := by
  rcases mayP_cases p with ⟨rfl, h⟩ | ⟨rfl, h⟩ | ⟨rfl, h⟩ | ⟨rfl, h⟩ | ⟨rfl, h⟩ | ⟨h1, h3, h4, h5, h7, h⟩
  case inr.inr.inr.inr.inr =>
    rw [h]
    rcases (by omega : p < 1 ∨ (1 ≤ p ∧ 7 < p) ∨ p = 2 ∨ p = 6) with g | ⟨g, g2⟩ | rfl | rfl
    all_goals
      clear h
      go_enter Tryd.func29, Tryd.ntmps29
      go_wp2
      try go_bits
      go_ret
      exact ⟨by first | rfl | decide, Below.refl _ _⟩
  all_goals
    rw [h]
    clear h
    go_enter Tryd.func29, Tryd.ntmps29
    go_wp2
    try go_bits
    go_ret
    exact ⟨by first | rfl | decide, Below.refl _ _⟩
set_option maxHeartbeats 1000000 in
theorem refMay (p : Int) : Calls Tryd.prog 30 #[.int .i64 p] w (Pur w (.bool (mayP p))) := by
  rcases mayP_cases p with ⟨rfl, h⟩ | ⟨rfl, h⟩ | ⟨rfl, h⟩ | ⟨rfl, h⟩ | ⟨rfl, h⟩ | ⟨h1, h3, h4, h5, h7, h⟩
  case inr.inr.inr.inr.inr =>
   rw [h]
   have g1 : (p == 1) = false := by simp [h1]
   have g3 : (p == 3) = false := by simp [h3]
   have g4 : (p == 4) = false := by simp [h4]
   have g5 : (p == 5) = false := by simp [h5]
   have g7 : (p == 7) = false := by simp [h7]
   clear h h1 h3 h4 h5 h7
   go_enter Tryd.func30, Tryd.ntmps30
   go_wp2
   go_ret
   exact ⟨rfl, Below.refl _ _⟩
  all_goals
    rw [h]
    clear h
    go_enter Tryd.func30, Tryd.ntmps30
    go_wp2
    go_ret
    exact ⟨rfl, Below.refl _ _⟩
end
end Go.Proofs.YtiidfgomfmfaoaaDoor
