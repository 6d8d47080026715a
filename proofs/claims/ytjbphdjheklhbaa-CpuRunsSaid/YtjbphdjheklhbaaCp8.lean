/-
  Package cpu: New, Run; what a cpu tells.
-/
import Derived.Test.YtjbphdjheklhbaaCp7
import Derived.Laws.CopyRow
namespace Go.Proofs.Ytjbphdjheklhbaa
open Go.RowKit

/-- The registers at the start. -/
def begR (ns : List Nat) : List Nat := ns.take 4 ++ List.replicate (4 - min 4 ns.length) 0
theorem begR_len (ns : List Nat) : (begR ns).length = 4 := by simp [begR]; omega
theorem begR_ok {ns : List Nat} (h : ∀ x ∈ ns, x < 18446744073709551616) {pc : Nat} (hp : pc < 18446744073709551616) (d : Nat) (x : Bool) : CpOk ⟨begR ns, pc, d, x⟩ := by
  refine ⟨begR_len ns, fun x hx => ?_, hp⟩
  rcases List.mem_append.1 hx with hx | hx
  · exact h x (List.mem_of_mem_take hx)
  · have := List.eq_of_mem_replicate hx; omega
def newL (pc : Nat) : List Value := [Value.int .u64 0, .int .u64 0, .int .u64 0, .int .u64 0, .int .u64 pc, .int .i64 0, .bool false]
theorem begR_cells (ns : List Nat) (pc : Nat) : u64v (ns.take 4) ++ (newL pc).drop (u64v (ns.take 4)).length = u64v (begR ns) ++ [Value.int .u64 pc, .int .i64 0, .bool false] := by
  have h4 : newL pc = List.replicate 4 (Value.int .u64 0) ++ [Value.int .u64 pc, .int .i64 0, .bool false] := rfl
  rw [h4]
  have hl : (u64v (ns.take 4)).length = min 4 ns.length := by simp [u64v]
  rw [hl, List.drop_append_of_le_length (by simp; omega), List.drop_replicate]
  unfold begR
  rw [← List.append_assoc]
  congr 1
  simp [u64v]

section
variable {e : Env} {w : World} {R : List HP} {m b : Nat} {M : List Pg} {C : CpS}
set_option maxRecDepth 100000 in
theorem cpuNew (pc : Nat) (ns : List Nat) (v : Value) (hr : ∀ w', Holds e w' R → Reads w' v 1 ns.length (u64v ns)) (H : Holds e w R) :
    Calls Try.prog 34 #[.int .u64 pc, v] w (RetEx e (fun b : Nat => .pointer (some ⟨b, 0, none⟩)) (fun b => cpH b ⟨begR ns, pc, 0, false⟩ :: R)) := by
  have H1 := H.alloc (.cells (newL pc).toArray 130)
  obtain ⟨b, hb⟩ : ∃ b, w.heap.size = b := ⟨_, rfl⟩
  rw [hb] at H1
  have hrd := hr _ H1.drop
  obtain ⟨ad, c, rfl⟩ := hrd.shape
  have hcp : ∃ w2 z, (Builtin.copy_ #[45, 45] 3 #[.slice (some ⟨b, 0, none⟩) 4 4, .slice ad ns.length c]).run Try.prog (w.alloc (.cells (newL pc).toArray 130)) = .ok z w2 ∧ Holds e w2 (cpH b ⟨begR ns, pc, 0, false⟩ :: R) := by
    generalize w.alloc (.cells (newL pc).toArray 130) = w1 at *
    rcases hrd.2 with ⟨h0, h1⟩ | ⟨a, cap, h0, hc, hcell⟩
    · obtain rfl : ns = [] := List.eq_nil_of_length_eq_zero h1
      injection h0 with h2 h3 h4
      subst h2 h4
      exact ⟨_, _, run_copy_nil (P := Try.prog) _ _ _ _ 28 _ _ _ (by kernel_rfl) (by kernel_rfl), H1⟩
    · injection h0 with h2 h3 h4
      subst h2
      have hcs : (u64v (ns.take 4)).length = Nat.min ns.length 4 := by simp only [u64v, List.length_map, List.length_take]; exact Nat.min_comm _ _
      have hle : (u64v (ns.take 4)).length ≤ 4 := by rw [hcs]; exact Nat.min_le_right _ _
      have hone : ∀ u ∈ u64v (ns.take 4), u.oneCell' = true := by
        intro u hu
        unfold u64v at hu
        obtain ⟨x, _, rfl⟩ := List.mem_map.1 hu
        rfl
      have hrun := run_copy_row (P := Try.prog) w1 45 45 3 28 b 0 4 4 a ns.length c (newL pc).toArray 130 (u64v (ns.take 4)) (by kernel_rfl) (by kernel_rfl) H1.get hcs
        (fun j u hj => hcell j u (by
          have h1 : u64v (ns.take 4) = (u64v ns).take 4 := by simp [u64v, List.map_take]
          rw [h1] at hj
          exact (take_get hj).1)) (by show 0 + _ ≤ 7; omega) hone
      refine ⟨_, _, hrun, ?_⟩
      generalize hA : ((newL pc).toArray.toList.take 0 ++ u64v (ns.take 4) ++ (newL pc).toArray.toList.drop (0 + (u64v (ns.take 4)).length)).toArray = A
      have hA2 : A = (u64v (begR ns) ++ [Value.int .u64 pc, .int .i64 0, .bool false]).toArray := by
        rw [← hA, ← begR_cells]
        simp
      have hset := H1.setObj (w' := w1.setRow b A) (o' := .cells A 130 (0, 0)) rfl rfl rfl (setRow_heap w1 b _ A 130 _ H1.get) (fun k hk => setRow_other w1 b k A hk)
      rw [hA2] at hset ⊢
      exact hset
  obtain ⟨w2, z, hcp, H2⟩ := hcp
  clear hr hrd H1
  subst hb
  unfold newL at hcp
  go_enter Try.func34, Try.ntmps34
  go_wp2_with fail
  go_ret
  exact ⟨_, rfl, H2⟩
end
end Go.Proofs.Ytjbphdjheklhbaa
