/-
  slices.Sort of whole numbers that are owned, in the separation logic.
-/
import Derived.Test.YtjbphdjheklhbaaMap
import Derived.Test.YtjbphdjheklhbaaLayS
import Derived.Sort.OwnSortedInts
import Derived.Shelf.Sort.Plain
import Derived.Shelf.Slices.In.SortNone
namespace Go.Proofs.Ytjbphdjheklhbaa
open Go.RowKit

section
variable {e : Env} {w w' : World} {R A : List HP}
/-- A block written, new ones laid. -/
theorem Holds.but1 {g : Nat} {o o' : Obj} (H : Holds e w (pts g o :: A)) (h1 : w'.os = w.os) (h2 : w'.output = w.output) (h3 : w'.tape = w.tape) (hg : w'.heap[g]? = some o') (hk : ∀ k, k < w.heap.size → k ≠ g → w'.heap[k]? = w.heap[k]?) : Holds e w' (pts g o' :: A) := by
  obtain ⟨p, q, r, f1, f2, d, e1, e2, x, s⟩ := H
  have h2b : f2 g = none := by
    rcases d g with y | y
    · rw [show f1 g = some o from x] at y; cases y
    · exact y
  refine ⟨h1.trans p, h2.trans q, h3.trans r, fun k => if k = g then some o' else none, f2, ?_, ?_, ?_, by simp [pts], s⟩
  · intro b
    by_cases hb : b = g
    · right; subst hb; exact h2b
    · left; simp [hb]
  · intro b u y
    by_cases hb : b = g
    · subst hb; simp at y; subst y; exact hg
    · simp [hb] at y
  · intro b u y
    have hne : b ≠ g := by rintro rfl; rw [h2b] at y; cases y
    have hw := e2 b u y
    exact (hk b (Array.getElem?_eq_some_iff.1 hw).1 hne).trans hw
theorem slSort {v : Value} {l : List Int} (hl : l.length ≤ 1000000000000) (H : Holds e w (row v 3 1 l.length (ints l) :: R)) :
    Calls Try.prog 77 #[v] w (Ret e (.tuple #[]) (row v 3 1 l.length (ints (l.mergeSort fun x y => decide (x ≤ y))) :: R)) := by
  rcases (row.open H).2 with ⟨rfl, h0⟩ | ⟨g, cap, cur, rfl, h1, h2, h3, h4, h5⟩
  · obtain rfl : l = [] := List.eq_nil_of_length_eq_zero h0
    have hcon := Any.slices_Sort_int_none Try.sortL none 0 w
    change Calls Try.prog 77 _ _ _ at hcon
    refine hcon.mono ?_
    rintro en w1 ⟨rfl, rfl⟩
    exact ⟨rfl, by simpa using H⟩
  · rw [Nat.mul_one] at h3 h4
    have hH := holds_of_blockI (ss := l) h5.get h4
    have hcon := Any.slices_Sort_int Try.sortL g 0 cap l w hH h5.lt (by omega)
    change Calls Try.prog 77 _ _ _ at hcon
    refine hcon.mono ?_
    rintro en w1 ⟨rfl, n, os, rfl⟩
    have hs : (l.mergeSort fun x y => decide (x ≤ y)).length = l.length := List.length_mergeSort l
    generalize (l.mergeSort fun x y => decide (x ≤ y)) = s at *
    have h6 := h5.but1 (w' := Go.Sort.grow (Go.Sort.putRow (Value.int .i64) (Go.Sort.ahead w n) g 0 s.toArray) os) rfl rfl rfl (heap_sortedI s.toArray h5.get) (fun k hk hne => by
      rw [Go.Sort.heap_grow_old _ _ (by simpa using hk)]
      simp [Go.Sort.putRow, Go.Sort.mapBlock, Go.Sort.ahead, Array.getElem?_modify, Ne.symm hne])
    refine ⟨rfl, row.made (n := l.length) (cap := cap) (size := 1) (xs := ints s) h6 h1 h2 (by simp [Go.Sort.putCells, h3]) ?_⟩
    rw [Nat.mul_one, ← hs]
    have := take_putCellsI cur s (by omega)
    simpa [ints] using this
end
end Go.Proofs.Ytjbphdjheklhbaa
