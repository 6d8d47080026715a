/-
  Models that differ in where their pages lie: what they answer is the same. No program in sight.
-/
import Derived.Test.YtjbphdjheklhbaaCp9
namespace Go.Proofs.Ytjbphdjheklhbaa
open Go.RowKit

/-- A page without its places. -/
def strip (x : Pg) : Pg := ⟨x.pg, x.perm, x.bs, 0, 0⟩
def stripM (M : List Pg) : List Pg := M.map strip
theorem fnd_strip (M : List Pg) (k : Nat) : fnd (stripM M) k = (fnd M k).map strip := by
  unfold fnd stripM
  rw [List.find?_map]
  rfl
theorem chkAt_strip (M : List Pg) (a u j : Nat) : chkAt (stripM M) a u j = chkAt M a u j := by
  unfold chkAt
  rw [fnd_strip]
  cases fnd M (pgOf (a + j)) <;> rfl
theorem chk_strip (M : List Pg) (a : Nat) (n : Int) (u : Nat) : chk (stripM M) a n u = chk M a n u := by
  have h : chkAt (stripM M) a u = chkAt M a u := funext (chkAt_strip M a u)
  unfold chk chkL
  rw [h]
theorem byteOf_strip (M : List Pg) (b : Nat) : byteOf (stripM M) b = byteOf M b := by
  unfold byteOf
  rw [fnd_strip]
  cases fnd M (pgOf b) <;> rfl
theorem rdb_strip (M : List Pg) (a n : Nat) : rdb (stripM M) a n = rdb M a n := by
  unfold rdb
  apply List.map_congr_left
  intro j _
  exact byteOf_strip M _
theorem wrAt_strip (M : List Pg) (b : Nat) (v : UInt8) : stripM (wrAt M b v) = wrAt (stripM M) b v := by
  unfold stripM wrAt
  rw [List.map_map, List.map_map]
  apply List.map_congr_left
  intro x _
  simp only [Function.comp]
  have h : (strip x).pg = x.pg := rfl
  rw [h]
  split <;> rfl
theorem wrb_strip (M : List Pg) (a : Nat) (l : List UInt8) : stripM (wrb M a l) = wrb (stripM M) a l := by
  unfold wrb
  generalize l.zipIdx = ps
  induction ps generalizing M with
  | nil => rfl
  | cons p ps ih => rw [List.foldl_cons, List.foldl_cons, ih, wrAt_strip]
theorem stoP_strip (M : List Pg) (a : Nat) (ds : List UInt8) : stripM (stoP M a ds) = stoP (stripM M) a ds := by
  unfold stoP
  rw [chk_strip]
  split
  · exact wrb_strip M a ds
  · rfl
theorem mapE_strip (M : List Pg) (a : Nat) (perm : Int) : mapE (stripM M) a perm = mapE M a perm := by
  unfold mapE
  rw [fnd_strip]
  cases fnd M (pgOf a) <;> rfl
theorem proE_strip (M : List Pg) (a : Nat) (perm : Int) : proE (stripM M) a perm = proE M a perm := by
  unfold proE
  rw [fnd_strip]
  cases fnd M (pgOf a) <;> rfl
theorem insPg_strip (M : List Pg) (x : Pg) : stripM (insPg M x) = insPg (stripM M) (strip x) := by
  unfold insPg stripM
  rw [List.map_append, List.map_cons, List.filter_map, List.filter_map]
  rfl
theorem mapP_strip (M : List Pg) (a : Nat) (perm : Int) (p : Nat × Nat) : stripM (mapP M a perm p) = mapP (stripM M) a perm (0, 0) := by
  unfold mapP
  rw [mapE_strip]
  split
  · rw [insPg_strip]; rfl
  · rfl
theorem proP_strip (M : List Pg) (a : Nat) (perm : Int) : stripM (proP M a perm) = proP (stripM M) a perm := by
  unfold proP
  rw [proE_strip]
  split
  · unfold stripM setPerm
    rw [List.map_map, List.map_map]
    apply List.map_congr_left
    intro x _
    simp only [Function.comp]
    have h : (strip x).pg = x.pg := rfl
    rw [h]
    split <;> rfl
  · rfl
theorem opP_strip (M : List Pg) (o : OpS) (p : Nat × Nat) : stripM (opP M o p) = opP (stripM M) o (0, 0) := by
  unfold opP
  split
  · exact mapP_strip ..
  · split
    · exact proP_strip ..
    · exact stoP_strip ..
theorem runP_strip : ∀ (L : List OpS) (ps : List (Nat × Nat)) (M : List Pg), ps.length = L.length → stripM (runP M L ps) = runP (stripM M) L (L.map fun _ => (0, 0))
  | [], [], _, _ => rfl
  | [], _ :: _, _, h => by simp at h
  | _ :: _, [], _, h => by simp at h
  | o :: L, p :: ps, M, h => by
    have ih := runP_strip L ps (opP M o p) (by simpa using h)
    rw [opP_strip] at ih
    exact ih
theorem execC_strip (x : InsS) (M : List Pg) (C : CpS) : execC x (stripM M) C = ((execC x M C).1, (execC x M C).2.1, stripM (execC x M C).2.2) := by
  unfold execC
  split <;> first
    | rfl
    | (rw [chk_strip, rdb_strip])
    | (rw [chk_strip, stoP_strip])
theorem stepS_strip (M : List Pg) (C : CpS) : stepS (stripM M) C = ((stepS M C).1, (stepS M C).2.1, stripM (stepS M C).2.2) := by
  unfold stepS
  rw [chk_strip, rdb_strip, execC_strip]
  repeat' split
  all_goals rfl
/-- Two models answer alike. -/
theorem step_alike {M M' : List Pg} (h : stripM M = stripM M') (C : CpS) : (stepS M C).1 = (stepS M' C).1 ∧ (stepS M C).2.1 = (stepS M' C).2.1 ∧ stripM (stepS M C).2.2 = stripM (stepS M' C).2.2 := by
  have h1 := stepS_strip M C
  have h2 := stepS_strip M' C
  rw [h, h2] at h1
  injection h1 with q1 q2
  injection q2 with q2 q3
  exact ⟨q1.symm, q2.symm, q3.symm⟩
theorem run_alike : ∀ (k : Nat) {M M' : List Pg} (_ : stripM M = stripM M') (C : CpS), (runF k M C).1 = (runF k M' C).1 ∧ (runF k M C).2.1 = (runF k M' C).2.1 ∧ (runF k M C).2.2.1 = (runF k M' C).2.2.1 ∧ stripM (runF k M C).2.2.2 = stripM (runF k M' C).2.2.2
  | 0, _, _, h, _ => ⟨rfl, rfl, rfl, h⟩
  | k + 1, M, M', h, C => by
    obtain ⟨s1, s2, s3⟩ := step_alike h C
    unfold runF
    rw [s1]
    split
    · exact ⟨rfl, rfl, rfl, h⟩
    · split
      · exact ⟨rfl, rfl, rfl, h⟩
      · have ih := run_alike k s3 (stepS M C).2.1
        rw [s2] at ih ⊢
        exact ⟨by rw [ih.1], ih.2.1, ih.2.2.1, ih.2.2.2⟩
end Go.Proofs.Ytjbphdjheklhbaa
