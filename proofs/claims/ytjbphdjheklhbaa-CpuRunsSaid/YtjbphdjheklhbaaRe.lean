/-
  Assertions in another order, by the numbers of their places.
-/
import Derived.Test.YtjbphdjheklhbaaSL2
namespace Go.Proofs.Ytjbphdjheklhbaa
open Go.RowKit

theorem Sat.perm {A B : List HP} (p : A.Perm B) : ∀ {h : PH}, Sat A h → Sat B h := by
  induction p with
  | nil => exact fun s => s
  | cons x _ ih => exact fun s => Sat.cons (fun _ s => ih s) s
  | swap x y l => exact fun s => Take.there _ (Take.here _ _) _ s
  | trans _ _ ih1 ih2 => exact fun s => ih2 (ih1 s)
theorem Sat.dropL {R : List HP} : ∀ (D : List HP) {h : PH}, Sat (D ++ R) h → Sat R h
  | [], _, s => s
  | _ :: D, _, s => Sat.dropL D s.drop

theorem map_getD_range {α : Type} (d : α) : ∀ (l : List α), (List.range l.length).map (fun i => l.getD i d) = l := by
  intro l
  apply List.ext_getElem
  · simp
  · intro i h1 h2
    simp [List.getD, List.getElem?_eq_getElem h2]

theorem range_split {idx : List Nat} {n : Nat} (hn : idx.Nodup) (hl : ∀ i ∈ idx, i < n) : (List.range n).Perm ((List.range n).filter (fun i => i ∉ idx) ++ idx) := by
  apply (List.perm_ext_iff_of_nodup List.nodup_range ?_).2
  · intro a
    simp only [List.mem_append, List.mem_filter, List.mem_range, decide_eq_true_eq]
    constructor
    · intro h
      by_cases ha : a ∈ idx
      · exact .inr ha
      · exact .inl ⟨h, ha⟩
    · rintro (h | h)
      · exact h.1
      · exact hl a h
  · refine List.nodup_append.2 ⟨List.Pairwise.filter _ List.nodup_range, hn, ?_⟩
    intro a ha b hb
    rintro rfl
    simp at ha
    exact ha.2 hb

/-- The assertions at these places, in this order; others among the first n are dropped. -/
theorem Holds.re {e : Env} {w : World} {A : List HP} (n : Nat) (idx : List Nat) (h : Holds e w A) (hn : idx.Nodup := by decide) (hl : ∀ i ∈ idx, i < n := by decide) :
    Holds e w (idx.map (fun i => A.getD i (pur True)) ++ A.drop n) := by
  refine h.imp fun g s => ?_
  have h1 : Sat ((List.range n).map (fun i => A.getD i (pur True)) ++ A.drop n) g := by
    by_cases hA : n ≤ A.length
    · have e1 : (List.range n).map (fun i => A.getD i (pur True)) = A.take n := by
        have := map_getD_range (pur True) (A.take n)
        rw [List.length_take, Nat.min_eq_left hA] at this
        rw [← this]
        apply List.map_congr_left
        intro i hi
        rw [List.mem_range] at hi
        simp [List.getD, hi]
      rw [e1, List.take_append_drop]
      exact s
    · have e2 : A.drop n = [] := List.drop_eq_nil_of_le (by omega)
      have e1 : (List.range n).map (fun i => A.getD i (pur True)) = A ++ List.replicate (n - A.length) (pur True) := by
        apply List.ext_getElem
        · simp; omega
        · intro i h1 h2
          simp only [List.getElem_map, List.getElem_range, List.getElem_append, List.getElem_replicate]
          split
          · next hi => simp [List.getD, List.getElem?_eq_getElem hi]
          · next hi => simp [List.getD, List.getElem?_eq_none (Nat.le_of_not_lt hi)]
      rw [e1, e2, List.append_nil]
      refine Sat.perm List.perm_append_comm ?_
      generalize n - A.length = k
      induction k with
      | zero => exact s
      | succ k ih => exact ⟨fun _ => none, g, fun b => .inl rfl, fun b o x => (by cases x), fun b o x => x, trivial, ih⟩
  have h2 := Sat.perm ((range_split hn hl).map (fun i => A.getD i (pur True)) |>.append_right (A.drop n)) h1
  rw [List.map_append, List.append_assoc] at h2
  exact Sat.dropL _ h2
end Go.Proofs.Ytjbphdjheklhbaa
