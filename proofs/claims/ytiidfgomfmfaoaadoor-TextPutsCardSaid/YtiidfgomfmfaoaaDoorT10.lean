/-
  Text: which configurations and scripts may be.
-/
import Derived.Test.YtiidfgomfmfaoaaDoorT9
namespace Go.Proofs.YtiidfgomfmfaoaaDoor
open Go.RowKit

def confV (F S L A : Int) : Value := .agg #[.int .i64 F, .int .i64 S, .int .i64 L, .int .i64 A]
def confB (F S L A : Int) : Bool := decide (8 ≤ F ∧ F ≤ 96 ∧ 0 ≤ S ∧ S ≤ 128 ∧ 4 ≤ L ∧ L ≤ 96 ∧ 1 ≤ A ∧ A ≤ 100)

section
variable {w : World}
theorem limMay (m : Int) : Calls Tryd.prog 51 #[.int .i64 m] w (Pur w (.bool (decide (4 ≤ m ∧ m ≤ 96)))) := by
  rcases (by omega : m < 4 ∨ (4 ≤ m ∧ 96 < m) ∨ (4 ≤ m ∧ m ≤ 96)) with h | ⟨h, h2⟩ | ⟨h, h2⟩
  · rw [decide_eq_false (by omega)]
    go_enter Tryd.func51, Tryd.ntmps51
    go_wp2
    go_ret
    exact ⟨by simp <;> omega, Below.refl _ _⟩
  · rw [decide_eq_false (by omega)]
    go_enter Tryd.func51, Tryd.ntmps51
    go_wp2
    go_ret
    exact ⟨by simp <;> omega, Below.refl _ _⟩
  · rw [decide_eq_true (by omega)]
    go_enter Tryd.func51, Tryd.ntmps51
    go_wp2
    go_ret
    exact ⟨by simp <;> omega, Below.refl _ _⟩
theorem limNew (m a : Int) : Calls Tryd.prog 45 #[.int .i64 m, .int .i64 a] w (fun en w' => (∃ p, en = .returned (.tuple #[p, .int .i64 (if 4 ≤ m ∧ m ≤ 96 ∧ 1 ≤ a ∧ a ≤ 100 then 0 else 1)])) ∧ Below w.heap.size w w') := by
  have c1 := limMay (w := w) m
  rcases (by omega : ¬ (4 ≤ m ∧ m ≤ 96) ∨ ((4 ≤ m ∧ m ≤ 96) ∧ (a < 1 ∨ (1 ≤ a ∧ 100 < a))) ∨ ((4 ≤ m ∧ m ≤ 96) ∧ 1 ≤ a ∧ a ≤ 100)) with h | ⟨h, h2⟩ | ⟨h, h2, h3⟩
  · rw [if_neg (by omega)]
    rw [decide_eq_false h] at c1
    clear h
    go_enter Tryd.func45, Tryd.ntmps45
    go_wp2_with fail
    refine c1.mono ?_
    rintro e w1 ⟨rfl, hb⟩
    go_wp2
    go_ret2
    exact ⟨⟨_, rfl⟩, hb⟩
  · rw [if_neg (by omega)]
    rw [decide_eq_true h] at c1
    clear h
    rcases h2 with h2 | ⟨h2, h3⟩
    all_goals
      go_enter Tryd.func45, Tryd.ntmps45
      go_wp2_with fail
      refine c1.mono ?_
      rintro e w1 ⟨rfl, hb⟩
      go_wp2
      go_ret2
      exact ⟨⟨_, rfl⟩, hb⟩
  · rw [if_pos (by omega)]
    rw [decide_eq_true h] at c1
    clear h
    go_enter Tryd.func45, Tryd.ntmps45
    go_wp2_with fail
    refine c1.mono ?_
    rintro e w1 ⟨rfl, hb⟩
    go_wp2
    go_ret2
    exact ⟨⟨_, rfl⟩, hb.alloc hb.size _⟩

set_option maxRecDepth 100000 in
set_option maxHeartbeats 2000000 in
theorem conf_any (F S L A : Int) : Calls Tryd.prog 35 #[confV F S L A] w (Pur w (.bool (confB F S L A))) := by
  have H0 := Holds.start w
  generalize hE : (⟨w.os, w.output, w.tape⟩ : Env) = E at *
  have hbel : ∀ w' A, Holds E w' (base w :: A) → Below w.heap.size w w' := fun w' A h => by subst hE; exact h.below rfl rfl rfl
  have HBL := Lib.hid hbel
  clear hE hbel
  have H1 := H0.alloc (.cells #[.int .i64 F, .int .i64 S, .int .i64 L, .int .i64 A] 23)
  have hc1 := H1.cells
  have c1 := limNew (w := w.alloc (.cells #[.int .i64 F, .int .i64 S, .int .i64 L, .int .i64 A] 23)) L A
  unfold confV
  by_cases h : 4 ≤ L ∧ L ≤ 96 ∧ 1 ≤ A ∧ A ≤ 100
  · rw [if_pos h] at c1
    have hq : confB F S L A = decide (8 ≤ F ∧ F ≤ 96 ∧ 0 ≤ S ∧ S ≤ 128) := by unfold confB; rw [decide_eq_decide]; omega
    rw [hq]
    clear hq h
    rcases (by omega : F < 8 ∨ (8 ≤ F ∧ 96 < F) ∨ (8 ≤ F ∧ F ≤ 96 ∧ S < 0) ∨ (8 ≤ F ∧ F ≤ 96 ∧ 0 ≤ S ∧ 128 < S) ∨ (8 ≤ F ∧ F ≤ 96 ∧ 0 ≤ S ∧ S ≤ 128)) with h | ⟨h, h2⟩ | ⟨h, h2, h3⟩ | ⟨h, h2, h3, h4⟩ | ⟨h, h2, h3, h4⟩
    case inr.inr.inr.inr =>
      rw [decide_eq_true (by omega)]
      go_enter Tryd.func35, Tryd.ntmps35
      go_wp2_with fail
      refine c1.mono ?_
      rintro e w1 ⟨⟨pp, rfl⟩, hb⟩
      have H2 := H1.ofBelow hb
      have hc2 := H2.cells
      go_wp2
      go_ret
      exact ⟨by simp <;> omega, HBL.out _ _ H2.drop⟩
    all_goals
      rw [decide_eq_false (by omega)]
      go_enter Tryd.func35, Tryd.ntmps35
      go_wp2_with fail
      refine c1.mono ?_
      rintro e w1 ⟨⟨pp, rfl⟩, hb⟩
      have H2 := H1.ofBelow hb
      have hc2 := H2.cells
      go_wp2
      go_ret
      exact ⟨by simp <;> omega, HBL.out _ _ H2.drop⟩
  · rw [if_neg h] at c1
    have hq : confB F S L A = false := by unfold confB; rw [decide_eq_false_iff_not]; omega
    rw [hq]
    clear hq h
    go_enter Tryd.func35, Tryd.ntmps35
    go_wp2_with fail
    refine c1.mono ?_
    rintro e w1 ⟨⟨pp, rfl⟩, hb⟩
    have H2 := H1.ofBelow hb
    have hc2 := H2.cells
    go_wp2
    go_ret
    exact ⟨by simp <;> omega, HBL.out _ _ H2.drop⟩

set_option maxRecDepth 100000 in
set_option maxHeartbeats 4000000 in
theorem refConf (F S L A : Int) : Calls Tryd.prog 17 #[confV F S L A] w (Pur w (.bool (confB F S L A))) := by
  unfold confV confB
  go_enter Tryd.func17, Tryd.ntmps17
  go_wp2
  all_goals
    go_ret
    refine ⟨?_, (Below.refl _ w).alloc (Nat.le_refl _) _⟩
    first
      | (simp <;> omega)
      | simp [*]
end
end Go.Proofs.YtiidfgomfmfaoaaDoor
