/-
  Contracts of the package limit: Room, Accepts.
-/
import Derived.Test.YtfjdgjdkpmljkaaLim
import Derived.Test.YtfjdgjdkpmljkaaRow
namespace Go.Proofs.Ytfjdgjdkpmljkaa
open Go.RowKit

def roomL (left : Int) : List Int → Bool
  | [] => true
  | n :: ns => if left < max 0 n then false else roomL (left - max 0 n) ns

section
variable {e : Env} {w : World} {b : Nat} {s : LimS} {R : List HP}

theorem room_nil (n : Int) (v : Value) : Calls Try.prog 30 #[.pointer none, .int .i64 n, v] w (Quiet w (.bool false)) := by
  go_enter Try.func30, Try.ntmps30
  go_wp2
  go_ret
  exact ⟨rfl, 0, rfl⟩

set_option maxHeartbeats 400000 in
theorem room_ok (n : Int) (h1 : -9223372036854775808 ≤ n) (h2 : n ≤ 9223372036854775807) (need : List Int) (hn : ∀ x ∈ need, -9223372036854775808 ≤ x ∧ x ≤ 9223372036854775807) (v : Value)
    (m : Nat) (hm : m * 8 ≤ 140737488351232)
    (hr : Reads w v 1 m (ints need)) (H : Holds e w (pts b s.obj :: R)) (hs : s.ok) :
    Calls Try.prog 30 #[.pointer (some ⟨b, 0, none⟩), .int .i64 n, v] w (Ret e (.bool (roomL s.most (n :: need))) (pts b s.obj :: R)) := by
  have h0 : w.cell? ⟨b, 0, none⟩ = some (.int .i64 s.most) := by unfold LimS.obj at H; exact H.cell rfl
  obtain ⟨hb1, hb2, _, _⟩ := hs
  go_enter Try.func30, Try.ntmps30
  go_wp2_with (at_builtin; refine wpList_append_sl rfl _ _ _ rfl 3 1 8 elem_int _ 1 (ints [n]) rfl (row.made (H.alloc _) (Nat.le_refl _) (by decide) rfl rfl) _ m (ints need) rfl ?_ (ints_one _) ?_ ?_ ?_)
  · exact hr.alloc _
  · unfold maxLen; omega
  · omega
  intro v' w1 H1
  have hr1 := row.reads H1
  obtain ⟨ad, c, rfl⟩ := hr1.shape
  obtain ⟨g, o, rfl, hcell⟩ := hr1.at (by omega)
  have hlen : (n :: need).length = 1 + m := by have := hr.len; simp at this ⊢; omega
  have hcell' : ∀ k, k < 1 + m → w1.cell? ⟨g, o + k, none⟩ = some (.int .i64 ((n :: need).getD k 0)) := by
    intro k hk
    refine hcell k _ ?_
    rw [← ints_append]
    refine ints_get ?_
    simp [List.getD, List.getElem?_eq_getElem (show k < (n :: need).length by omega)]
  have hbd : ∀ k, k < 1 + m → -9223372036854775808 ≤ (n :: need).getD k 0 ∧ (n :: need).getD k 0 ≤ 9223372036854775807 := by
    intro k hk
    have : (n :: need).getD k 0 ∈ n :: need := by
      simp [List.getD, List.getElem?_eq_getElem (show k < (n :: need).length by omega)]
    rcases List.mem_cons.1 this with h | h
    · rw [h]; exact ⟨h1, h2⟩
    · exact hn _ h
  have hdrop : ∀ k, k < 1 + m → (n :: need).drop k = (n :: need).getD k 0 :: (n :: need).drop (k + 1) := by
    intro k hk
    rw [List.drop_eq_getElem_cons (by omega)]
    simp [List.getD, List.getElem?_eq_getElem (show k < (n :: need).length by omega)]
  generalize hall : n :: need = all at *
  have HF : Holds e w1 (pts b s.obj :: R) := H1.drop
  clear hcell hr1 H1 hr h0 hall H h1 h2 hn
  go_wp2
  go_loop [7, 21] (fun l i => ∃ k left, k ≤ 1 + m ∧ i = .int .i64 (k : Nat) ∧ 0 ≤ left ∧ left ≤ 96 ∧ l = .int .i64 left ∧ roomL left (all.drop k) = roomL s.most all) (fun _ i => 1 + m - (intOf i).toNat)
  case atStart => exact ⟨0, s.most, by omega, rfl, by omega, by omega, rfl, rfl⟩
  case round =>
    obtain ⟨k, left, hk, rfl, hl0, hl1, rfl, hR⟩ := hrel
    by_cases hlt : k < 1 + m
    · have hc := hcell' k hlt
      obtain ⟨hb3, hb4⟩ := hbd k hlt
      have hd := hdrop k hlt
      generalize all.getD k 0 = x at *
      have HR := Lib.hid hR; clear hR
      have HD := Lib.hid hd; clear hd
      clear hcell' hbd hdrop
      by_cases hx : left < max 0 x
      · go_wp2
        go_ret
        refine ⟨?_, HF⟩
        have e1 := HR.out
        rw [HD.out] at e1
        simp only [roomL, hx, if_true] at e1
        rw [← e1]; rfl
      · have hx' : max 0 x ≤ left := by omega
        go_wp2
        go_round
        case rel =>
          refine ⟨k + 1, left - max 0 x, by omega, by go_num, by omega, by omega, by rw [show (if 0 < x then x else 0) = max 0 x by split <;> omega], ?_⟩
          have e1 := HR.out
          rw [HD.out] at e1
          simp only [roomL, hx, if_false] at e1
          exact e1
        case measure => simp [intOf]; omega
    · go_wp2
      go_ret
      refine ⟨?_, HF⟩
      have e1 := hR
      rw [List.drop_of_length_le (by omega)] at e1
      rw [← e1]; rfl


set_option maxHeartbeats 400000 in
theorem accepts_nil (n : Int) : Calls Try.prog 28 #[.pointer none, .int .i64 n] w (Quiet w (.bool false)) := by
  go_enter Try.func28, Try.ntmps28
  go_wp2
  go_ret
  exact ⟨rfl, 0, rfl⟩

set_option maxHeartbeats 400000 in
theorem accepts_no (n : Int) (H : Holds e w (pts b s.obj :: R)) (hs : s.ok) (hc : s.closed = true) (hn : s.low < n) :
    Calls Try.prog 28 #[.pointer (some ⟨b, 0, none⟩), .int .i64 n] w (Ret e (.bool false) (pts b s.obj :: R)) := by
  have h0 : w.cell? ⟨b, 2, none⟩ = some (.bool true) := by rw [← hc]; unfold LimS.obj at H; exact H.cell rfl
  have hf := H.frozen
  clear hc
  go_enter Try.func28, Try.ntmps28
  go_wp2_with (go_at_call 25; refine (low_ok (by first | exact H | exact H.drewN _) hs).mono ?_; rintro e w' ⟨rfl, k, rfl⟩)
  go_ret
  exact ⟨rfl, H.drewN _⟩

set_option maxHeartbeats 400000 in
theorem accepts_yes (n : Int) (H : Holds e w (pts b s.obj :: R)) (hs : s.ok) (hc : s.closed = false ∨ ¬ s.low < n) :
    Calls Try.prog 28 #[.pointer (some ⟨b, 0, none⟩), .int .i64 n] w (Ret e (.bool true) (pts b { s with closed := false }.obj :: R)) := by
  have h0 : w.cell? ⟨b, 2, none⟩ = some (.bool s.closed) := by unfold LimS.obj at H; exact H.cell rfl
  have hf := H.frozen
  cases hcl : s.closed with
  | false =>
    rw [hcl] at h0
    clear hc hcl
    go_enter Try.func28, Try.ntmps28
    go_wp2
    go_ret
    exact ⟨rfl, H.set 2 _⟩
  | true =>
    have hn : ¬ s.low < n := by
      rcases hc with h | h
      · rw [hcl] at h; cases h
      · exact h
    rw [hcl] at h0
    clear hc hcl
    go_enter Try.func28, Try.ntmps28
    go_wp2_with (go_at_call 25; refine (low_ok (by first | exact H | exact H.drewN _) hs).mono ?_; rintro e w' ⟨rfl, k, rfl⟩)
    go_ret
    exact ⟨rfl, (H.set 2 _).drewN _⟩

end
end Go.Proofs.Ytfjdgjdkpmljkaa
