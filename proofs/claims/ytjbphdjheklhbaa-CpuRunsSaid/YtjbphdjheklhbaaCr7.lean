/-
  Layer 48: the ops that lay code may be told.
-/
import Derived.Test.YtjbphdjheklhbaaMpg
import Derived.Test.YtjbphdjheklhbaaCpB
namespace Go.Proofs.Ytjbphdjheklhbaa
open Go.RowKit

section
variable {e : Env} {w : World} {R : List HP}
theorem stoO_read {B : List UInt8} {g o c : Nat} (bs j : Nat) (hj : 64 * j < B.length) {w : World} (h : RdB w (.slice (some ⟨g, o, none⟩) B.length c) B) : RdB w (stoO bs g o c B j).d (stoO bs g o c B j).ds := by
  have h1 := reads_drop (k := 64 * j) h (by omega)
  rw [Nat.mul_one, u8v_drop] at h1
  have h2 := reads_take (k := min B.length (64 * j + 64) - 64 * j) h1 (by omega)
  rw [Nat.mul_one, u8v_take] at h2
  have e1 : (B.drop (64 * j)).take (min B.length (64 * j + 64) - 64 * j) = (B.drop (64 * j)).take 64 := by
    rcases Nat.le_total B.length (64 * j + 64) with h | h
    · rw [Nat.min_eq_left h, List.take_of_length_le (by simp), List.take_of_length_le (by simp; omega)]
    · rw [Nat.min_eq_right h]; congr 1; omega
  have e2 : ((B.drop (64 * j)).take 64).length = min B.length (64 * j + 64) - 64 * j := by simp; omega
  unfold stoO RdB
  dsimp only
  rw [e1] at h2
  rw [e2]
  exact h2
theorem laid_ok {B : List UInt8} {P : List Int} {bs g o c : Nat} {a1 : Option Addr} (hP : P.length ≤ 6) (hA1 : B.length ≠ 0 → a1 = some ⟨g, o, none⟩) (hr : ∀ w', Holds e w' R → RdB w' (.slice a1 B.length c) B) :
    ∀ x ∈ laid bs g o c B P, x.wr ∧ OpOk e R x := by
  intro x hx
  unfold laid at hx
  rcases List.mem_append.1 hx with hx | hx
  · rcases List.mem_append.1 hx with hx | hx
    · obtain ⟨i, hi, rfl⟩ := List.mem_map.1 hx
      rw [List.mem_range] at hi
      exact ⟨.inl rfl, by unfold mapO; dsimp only; omega, fun w' _ => reads_none _ _, by simp [mapO]⟩
    · obtain ⟨j, hj, rfl⟩ := List.mem_map.1 hx
      rw [List.mem_range] at hj
      unfold chN at hj
      refine ⟨.inr (.inr rfl), add64_lt _ _, fun w' h => ?_, by simp [stoO]; omega⟩
      have := hr w' h
      rw [hA1 (by omega)] at this
      exact stoO_read bs j (by omega) this
  · obtain ⟨i, hi, rfl⟩ := List.mem_map.1 hx
    rw [List.mem_range] at hi
    exact ⟨.inr (.inl rfl), by unfold proO; dsimp only; omega, fun w' _ => reads_none _ _, by simp [proO]⟩
theorem laid_len (bs g o c : Nat) (B : List UInt8) (P : List Int) (hB : B.length ≤ 900) (hP : P.length ≤ 6) : (laid bs g o c B P).length ≤ 1000 := by
  unfold laid chN
  simp
  omega
/-- The pages of code that is laid. -/
noncomputable def layP (bs g o c : Nat) (B : List UInt8) (P : List Int) (ps : List (Nat × Nat)) : List Pg := runP [] (laid bs g o c B P) ps
theorem layP_alike (bs g o c : Nat) (B : List UInt8) (P : List Int) {ps qs : List (Nat × Nat)} (hp : ps.length = (laid bs g o c B P).length) (hq : qs.length = (laid bs g o c B P).length) : stripM (layP bs g o c B P ps) = stripM (layP bs g o c B P qs) := by
  unfold layP
  rw [runP_strip _ _ _ hp, runP_strip _ _ _ hq]
theorem alike_key {M M' : List Pg} {ds ds' : List Value} (h : stripM M = stripM M') (h1 : ds.length = M.length) (h2 : ds'.length = M'.length) : (toldP M ds).map PgV.key = (toldP M' ds').map PgV.key := by
  rw [toldP_key h1, toldP_key h2]
  have e1 : ∀ M : List Pg, M.map (fun x => (upA (4096 * x.pg), x.perm, x.bs)) = (stripM M).map (fun x => (upA (4096 * x.pg), x.perm, x.bs)) := fun M => by
    unfold stripM
    rw [List.map_map]
    rfl
  rw [e1 M, e1 M', h]
end
end Go.Proofs.Ytjbphdjheklhbaa
