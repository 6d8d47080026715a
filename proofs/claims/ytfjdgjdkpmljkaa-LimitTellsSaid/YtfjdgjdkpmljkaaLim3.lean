/-
  Contracts of the reference of layer 26.
-/
import Derived.Test.YtfjdgjdkpmljkaaLim2
namespace Go.Proofs.Ytfjdgjdkpmljkaa
open Go.RowKit

section
variable {e : Env} {w : World} {R : List HP}

set_option maxHeartbeats 400000 in
theorem mayR_yes (m a : Int) (h : 4 ≤ m ∧ m ≤ 96 ∧ 1 ≤ a ∧ a ≤ 100) : Calls Try.prog 38 #[.int .i64 m, .int .i64 a] w (Quiet w (.bool true)) := by
  obtain ⟨h1, h2, h3, h4⟩ := h
  go_enter Try.func38, Try.ntmps38
  go_wp2
  go_ret
  exact ⟨rfl, 0, rfl⟩

set_option maxHeartbeats 400000 in
theorem mayR_no (m a : Int) (h : ¬ (4 ≤ m ∧ m ≤ 96 ∧ 1 ≤ a ∧ a ≤ 100)) : Calls Try.prog 38 #[.int .i64 m, .int .i64 a] w (Quiet w (.bool false)) := by
  have h' : m < 4 ∨ (4 ≤ m ∧ 96 < m) ∨ (4 ≤ m ∧ m ≤ 96 ∧ a < 1) ∨ (4 ≤ m ∧ m ≤ 96 ∧ 1 ≤ a ∧ 100 < a) := by omega
  clear h
  rcases h' with h1 | ⟨h1, h2⟩ | ⟨h1, h2, h3⟩ | ⟨h1, h2, h3, h4⟩
  all_goals
    go_enter Try.func38, Try.ntmps38
    go_wp2
    go_ret
    exact ⟨by simp; try omega, 0, rfl⟩

set_option maxHeartbeats 400000 in
theorem lowR_any (m a : Int) (c : Bool) (h : 4 ≤ m ∧ m ≤ 96 ∧ 1 ≤ a ∧ a ≤ 100) (H : Holds e w R) : Calls Try.prog 39 #[.agg #[.int .i64 m, .int .i64 a, .bool c]] w (Ret e (.int .i64 (LimS.low ⟨m, a, c⟩)) R) := by
  have hb := lim_mul h.1 h.2.1 h.2.2.1 h.2.2.2
  have HL := Lib.hid (show LimS.low ⟨m, a, c⟩ = m * a / 100 from rfl)
  clear h
  have hx : wrap64 (m * a) = m * a := by unfold wrap64; omega
  go_enter Try.func39, Try.ntmps39
  go_wp2
  go_loop [3] (fun i => ∃ k : Int, 0 ≤ k ∧ 100 * k ≤ m * a ∧ i = .int .i64 k) (fun i => 10000 - (intOf i).toNat)
  case atStart => exact ⟨0, by omega, by omega, rfl⟩
  case round =>
    obtain ⟨k, hk0, hk1, rfl⟩ := hrel
    by_cases hlt : 100 * (k + 1) ≤ m * a
    · go_wp2
      go_round
      case rel => exact ⟨k + 1, by omega, by omega, rfl⟩
      case measure => simp [intOf]; omega
    · go_wp2
      go_ret
      exact ⟨by rw [HL.out]; show Ending.returned (.int .i64 k) = _; rw [show m * a / 100 = k by omega], (H.alloc _).drop⟩


set_option maxHeartbeats 400000 in
theorem overR_any (m a : Int) (c : Bool) (n : Int) (h1 : -9223372036854775808 ≤ n) (h2 : n ≤ 9223372036854775807) (h : 4 ≤ m ∧ m ≤ 96 ∧ 1 ≤ a ∧ a ≤ 100) (H : Holds e w R) :
    Calls Try.prog 41 #[.agg #[.int .i64 m, .int .i64 a, .bool c], .int .i64 n] w (Ret e (.int .i64 (LimS.over ⟨m, a, c⟩ n)) R) := by
  have hb := LimS.low_bd (s := ⟨m, a, c⟩) h
  have HO := Lib.hid (show LimS.over ⟨m, a, c⟩ n = if n < LimS.low ⟨m, a, c⟩ then 0 else n - LimS.low ⟨m, a, c⟩ from rfl)
  have hK := Lib.hid h; clear h
  go_enter Try.func41, Try.ntmps41
  go_wp2_with fail
  refine (lowR_any m a c hK.out (H.alloc _)).mono ?_
  rintro e w1 ⟨rfl, H1⟩
  have hc := H1.cells
  have hfz := H1.frozen
  by_cases hn : n ≤ LimS.low ⟨m, a, c⟩
  · go_wp2
    go_ret
    exact ⟨by rw [HO.out, show (if n < LimS.low ⟨m, a, c⟩ then 0 else n - LimS.low ⟨m, a, c⟩) = 0 by split <;> omega]; rfl, H1.drop⟩
  · go_wp2_with fail
    refine (lowR_any m a c hK.out H1).mono ?_
    rintro e w2 ⟨rfl, H2⟩
    go_wp2
    go_ret
    exact ⟨by rw [HO.out, if_neg (by omega)]; rfl, H2.drop⟩

def roomR (sum most : Int) : List Int → Bool
  | [] => decide (sum ≤ most)
  | n :: ns => if 1000 < n then false else roomR (if 0 < n then sum + n else sum) most ns

theorem roomR_over {most : Int} : ∀ (l : List Int) {sum : Int}, most < sum → roomR sum most l = false
  | [], sum, h => by simp only [roomR, decide_eq_false_iff_not]; omega
  | n :: ns, sum, h => by
    simp only [roomR]
    split
    · rfl
    · exact roomR_over ns (by split <;> omega)

theorem roomL_eq {most : Int} (h0 : most ≤ 96) : ∀ (l : List Int) (left : Int), 0 ≤ left → left ≤ most → roomL left l = roomR (most - left) most l
  | [], left, h1, h2 => by simp [roomL, roomR]; omega
  | n :: ns, left, h1, h2 => by
    simp only [roomL, roomR]
    by_cases h3 : left < max 0 n
    · rw [if_pos h3]
      split
      · rfl
      · exact (roomR_over ns (by split <;> omega)).symm
    · rw [if_neg h3, if_neg (by omega), roomL_eq h0 ns _ (by omega) (by omega)]
      congr 1
      split <;> omega

set_option maxHeartbeats 400000 in
theorem roomR_any (M a : Int) (c : Bool) (n : Int) (h1 : -9223372036854775808 ≤ n) (h2 : n ≤ 9223372036854775807) (need : List Int) (hn : ∀ x ∈ need, -9223372036854775808 ≤ x ∧ x ≤ 9223372036854775807) (v : Value)
    (m : Nat) (hm : m ≤ 1000) (hM : M ≤ 96) (hM0 : 4 ≤ M)
    (hr : Reads w v 1 m (ints need)) (H : Holds e w R) :
    Calls Try.prog 40 #[.agg #[.int .i64 M, .int .i64 a, .bool c], .int .i64 n, v] w (Ret e (.bool (roomL M (n :: need))) R) := by
  have HE := Lib.hid (roomL_eq hM (n :: need) M (by omega) (by omega))
  go_enter Try.func40, Try.ntmps40
  go_wp2_with (at_builtin; refine wpList_append_sl rfl _ _ _ rfl 3 1 8 elem_int _ 1 (ints [n]) rfl (row.made (Holds.allocAt (H.alloc _) (by simp)) (Nat.le_refl _) (by decide) rfl rfl) _ m (ints need) rfl ?_ (ints_one _) ?_ ?_ ?_)
  · exact (hr.alloc _).alloc _
  · unfold maxLen; omega
  · omega
  intro v' w1 H1
  have hr1 := row.reads H1
  obtain ⟨ad, cp, rfl⟩ := hr1.shape
  obtain ⟨g, o, rfl, hcell⟩ := hr1.at (by omega)
  have hlen : (n :: need).length = 1 + m := by have := hr.len; simp at this ⊢; omega
  have hcell' : ∀ k, k < 1 + m → w1.cell? ⟨g, o + k, none⟩ = some (.int .i64 ((n :: need).getD k 0)) := by
    intro k hk
    refine hcell k _ ?_
    rw [← ints_append]
    refine ints_get ?_
    simp [List.getD, List.getElem?_eq_getElem (show k < (n :: need).length by omega)]
  have hbd : ∀ k, k < 1 + m → -9223372036854775808 ≤ (n :: need).getD k 0 ∧ (n :: need).getD k 0 ≤ 9223372036854775807 := by
    intro k hk
    have : (n :: need).getD k 0 ∈ n :: need := by
      simp [List.getD, List.getElem?_eq_getElem (show k < (n :: need).length by omega)]
    rcases List.mem_cons.1 this with h | h
    · rw [h]; exact ⟨h1, h2⟩
    · exact hn _ h
  have hdrop : ∀ k, k < 1 + m → (n :: need).drop k = (n :: need).getD k 0 :: (n :: need).drop (k + 1) := by
    intro k hk
    rw [List.drop_eq_getElem_cons (by omega)]
    simp [List.getD, List.getElem?_eq_getElem (show k < (n :: need).length by omega)]
  generalize n :: need = all at *
  have hM1 : w1.cell? ⟨w.heap.size, 0, none⟩ = some (.int .i64 M) := H1.drop.cell rfl
  have HF : Holds e w1 R := H1.drop.drop
  clear hcell hr1 H1 hr H h1 h2 hn
  go_wp2
  go_loop [8, 9] (fun l i => ∃ (k : Nat) (sum : Int), k ≤ 1 + m ∧ i = .int .i64 (k : Nat) ∧ 0 ≤ sum ∧ sum ≤ 1000 * k ∧ l = .int .i64 sum ∧ roomR sum M (all.drop k) = roomR 0 M all) (fun _ i => 1 + m - (intOf i).toNat)
  case atStart => exact ⟨0, 0, by omega, rfl, by omega, by omega, rfl, rfl⟩
  case round =>
    obtain ⟨k, sum, hk, rfl, hl0, hl1, rfl, hR⟩ := hrel
    by_cases hlt : k < 1 + m
    · have hc := hcell' k hlt
      obtain ⟨hb3, hb4⟩ := hbd k hlt
      have hd := hdrop k hlt
      generalize all.getD k 0 = x at *
      have HR := Lib.hid hR; clear hR
      have HD := Lib.hid hd; clear hd
      clear hcell' hbd hdrop
      by_cases hx : 1000 < x
      · go_wp2
        go_ret
        refine ⟨?_, HF⟩
        have e1 := HR.out
        rw [HD.out] at e1
        simp only [roomR, hx, if_true] at e1
        rw [HE.out, show M - M = 0 by omega, ← e1]; rfl
      · by_cases hx0 : 0 < x
        · go_wp2
          go_round
          case rel =>
            refine ⟨k + 1, sum + x, by omega, by go_num, by omega, by omega, rfl, ?_⟩
            have e1 := HR.out
            rw [HD.out] at e1
            simp only [roomR, hx, hx0, if_false, if_true] at e1
            exact e1
          case measure => simp [intOf]; omega
        · go_wp2
          go_round
          case rel =>
            refine ⟨k + 1, sum, by omega, by go_num, by omega, by omega, rfl, ?_⟩
            have e1 := HR.out
            rw [HD.out] at e1
            simp only [roomR, hx, hx0, if_false] at e1
            exact e1
          case measure => simp [intOf]; omega
    · have HR := Lib.hid hR; clear hR
      go_wp2
      go_ret
      refine ⟨?_, HF⟩
      have e1 := HR.out
      rw [List.drop_of_length_le (by omega)] at e1
      rw [HE.out, show M - M = 0 by omega, ← e1]; rfl

end
end Go.Proofs.Ytfjdgjdkpmljkaa
