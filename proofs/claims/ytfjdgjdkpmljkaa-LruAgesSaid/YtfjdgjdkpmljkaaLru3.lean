/-
  LruFull: the walk.
-/
import Derived.Test.YtfjdgjdkpmljkaaLru2
import Derived.Test.YtfjdgjdkpmljkaaRef3
namespace Go.Proofs.Ytfjdgjdkpmljkaa
open Go.RowKit

section
variable {e : Env} {w : World} {R : List HP} {ob : Nat} {L : List Nat}
set_option maxHeartbeats 400000 in
theorem lives25 (H : Holds e w R) : Calls Try.prog 53 #[] w (Ret e (.bool true) R) := by
  go_enter Try.func53, Try.ntmps53
  go_wp2_with fail
  refine (lruNew H).mono ?_
  rintro e w1 ⟨ob, rfl, H1⟩
  go_wp2_with fail
  refine (lruAdd (R := pts w1.heap.size (.cells (ints [4, 2, 4]).toArray 3 (0, 0)) :: R) (L := []) (ob := ob) (H1.alloc _).swap [4, 2, 4] _ 3 (by decide) (fun w' h => row.reads (row.made h (Nat.le_refl _) (by decide) rfl rfl))).mono ?_
  rw [show addL [] [4, 2, 4] = ([2, 4], 3) by decide]
  rintro e w2 ⟨rfl, H2⟩
  go_wp2_with fail
  refine (lruOldest_ok H2 2 (by decide)).mono ?_
  rw [show takeM 2 [2, 4] = [2, 4] by decide]
  rintro e w3 ⟨v3, rfl, H3⟩
  obtain ⟨a3, c3, rfl⟩ := row_shape H3
  go_wp2_with fail
  refine ((ints_rows (xs := [2, 4]) (by decide) ((row.made (H3.alloc _) (Nat.le_refl _) (by decide) rfl rfl).swap)).1).mono ?_
  rintro e w4 ⟨rfl, H4⟩
  go_wp2
  go_ret
  exact ⟨rfl, H4.drop.drop.drop.drop⟩
end

/-- The numbers from 1 to k. -/
def upto (k : Nat) : List Nat := (List.range k).map (· + 1)
theorem upto_mem {k x : Nat} : x ∈ upto k ↔ 1 ≤ x ∧ x ≤ k := by
  simp only [upto, List.mem_map, List.mem_range]
  constructor
  · rintro ⟨a, h, rfl⟩; omega
  · intro h; exact ⟨x - 1, by omega, by omega⟩
theorem upto_succ (k : Nat) : upto (k + 1) = upto k ++ [k + 1] := by simp [upto, List.range_succ]
theorem upto_add {k : Nat} (hk : k < 512) : addL (upto k) [((k + 1 : Nat) : Int)] = (upto (k + 1), 1) := by
  simp only [addL]
  rw [if_pos (by omega), Int.toNat_natCast, List.erase_of_not_mem (by rw [upto_mem]; omega), ← upto_succ]

theorem addL_keep : ∀ (zs : List Int) (L : List Nat), (∀ x, x ∈ L ↔ 1 ≤ x ∧ x ≤ 512) → (addL L zs).1.length = L.length ∧ ∀ x, x ∈ (addL L zs).1 ↔ 1 ≤ x ∧ x ≤ 512
  | [], L, h => ⟨rfl, h⟩
  | z :: zs, L, h => by
    simp only [addL]
    by_cases hz : 1 ≤ z ∧ z ≤ 512
    · rw [if_pos hz]
      have hm : z.toNat ∈ L := (h _).2 (by omega)
      have h2 : ∀ x, x ∈ L.erase z.toNat ++ [z.toNat] ↔ 1 ≤ x ∧ x ≤ 512 := by
        intro x
        rw [← h x, List.mem_append, List.mem_singleton]
        by_cases hx : x = z.toNat
        · subst hx; simp [hm]
        · simp [hx, List.mem_erase_of_ne hx]
      have := addL_keep zs _ h2
      refine ⟨this.1.trans ?_, this.2⟩
      rw [List.length_append, List.length_erase, if_pos hm, List.length_singleton]
      have := List.length_pos_of_mem hm
      omega
    · rw [if_neg hz]; exact addL_keep zs L h
theorem addL_none (L : List Nat) : addL L [0, -1, 513] = (L, 0) := by
  simp [addL]

set_option maxRecDepth 100000 in
set_option maxHeartbeats 2000000 in
theorem lruFull_walk (W : World) (v : Value) (n : Nat) (zs : List Int)
    (hr : Reads W v 1 n (ints zs)) :
    Calls Try.prog 12 #[v] W fun e w' => e = .returned (.bool true) ∧ Below W.heap.size W w' := by
  have H0 := Holds.start W
  generalize hE : (⟨W.os, W.output, W.tape⟩ : Env) = E at *
  have hbel : ∀ w' A, Holds E w' (base W :: A) → Below W.heap.size W w' := fun w' A h => by subst hE; exact h.below rfl rfl rfl
  clear hE
  obtain ⟨ad, c, rfl⟩ := hr.shape
  by_cases hbig : 100 < n
  · go_enter Try.func12, Try.ntmps12
    go_wp2_with fail
    refine (lives25 H0).mono ?_
    rintro e w1 ⟨rfl, H1⟩
    go_wp2
    go_ret
    exact ⟨rfl, hbel _ _ H1⟩
  · go_enter Try.func12, Try.ntmps12
    go_wp2_with fail
    refine (lruNew H0).mono ?_
    rintro e w1 ⟨ob, rfl, H1⟩
    have HR := Lib.hid hr
    clear hr
    go_wp2
    go_loopw [4] (fun i wr => ∃ k : Nat, k ≤ 512 ∧ i = .int .i64 ((k : Int) + 1) ∧ Holds E wr [lruH ob (upto k), base W]) (fun i _ => 513 - (intOf i).toNat)
    case atStart => exact ⟨0, by omega, rfl, H1⟩
    case round =>
      obtain ⟨k, hk, rfl, HH⟩ := hrel
      by_cases hlt : k < 512
      · have c1 := lruAdd (R := pts wr.heap.size (.cells (ints [((k + 1 : Nat) : Int)]).toArray 3 (0, 0)) :: [base W]) (HH.alloc _).swap [((k + 1 : Nat) : Int)] _ 1 (by decide) (fun w' h => row.reads (row.made h (Nat.le_refl _) (by decide) rfl rfl))
        rw [upto_add hlt] at c1
        go_wp2_with fail
        refine c1.mono ?_
        rintro e w2 ⟨rfl, H2⟩
        go_wp2
        go_roundw
        case rel => exact ⟨k + 1, by omega, by go_num, H2.swap.drop⟩
        case measure => simp [intOf]; omega
      · obtain rfl : k = 512 := by omega
        have hkeep := addL_keep zs (upto 512) (fun x => upto_mem)
        have hl5 : (upto 512).length = 512 := by simp [upto]
        rw [hl5] at hkeep
        have c1 := lruAdd HH zs _ n (by omega) (fun w' h => HR.out.based h)
        generalize (addL (upto 512) zs).1 = L at *
        generalize (addL (upto 512) zs).2 = q at *
        have hin : decide (0 ≤ (0 : Int) ∧ (0 : Int).toNat ∈ L) = false := decide_eq_false fun h => by
          have := (hkeep.2 _).1 h.2
          omega
        have htk : takeM 513 L = L := takeM_all (by omega)
        obtain ⟨hkl, _⟩ := hkeep
        go_wp2_with fail
        refine c1.mono ?_
        rintro e w2 ⟨rfl, H2⟩
        go_wp2_with fail
        refine (lruLen H2).mono ?_
        rw [hkl]
        rintro e w3 ⟨rfl, H3⟩
        have c2 := lruAdd (R := pts w3.heap.size (.cells (ints [0, -1, 513]).toArray 3 (0, 0)) :: [base W]) (H3.alloc _).swap [0, -1, 513] _ 3 (by decide) (fun w' h => row.reads (row.made h (Nat.le_refl _) (by decide) rfl rfl))
        rw [addL_none] at c2
        go_wp2_with fail
        refine c2.mono ?_
        rintro e w4 ⟨rfl, H4⟩
        go_wp2_with fail
        refine (lruIn H4 0).mono ?_
        rw [hin]
        rintro e w5 ⟨rfl, H5⟩
        go_wp2_with fail
        refine (lruOldest_ok H5 513 (by decide)).mono ?_
        rw [htk, hkl]
        rintro e w6 ⟨v6, rfl, H6⟩
        obtain ⟨a6, c6, rfl⟩ := row_shape H6
        go_wp2_with fail
        refine (lives25 H6).mono ?_
        rintro e w7 ⟨rfl, H7⟩
        go_wp2
        go_ret
        exact ⟨rfl, hbel _ _ H7.drop.drop.drop⟩

theorem lruFull_arg (W : World) (v0 : Value) (a0 : Arg Try.prog W 56 v0) :
    Calls Try.prog 12 #[v0] W fun e w' => e = .returned (.bool true) ∧ Below W.heap.size W w' := by
  obtain ⟨zs, hr, _, _⟩ := a0.ints Try.underlying56 Try.underlying3 (by kernel_rfl)
  exact lruFull_walk W v0 _ zs hr
end Go.Proofs.Ytfjdgjdkpmljkaa
