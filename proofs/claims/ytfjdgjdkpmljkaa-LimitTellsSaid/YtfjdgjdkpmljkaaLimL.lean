/-
  The laws of layer 26: the walks.
-/
import Derived.Test.YtfjdgjdkpmljkaaLim2
import Derived.Test.YtfjdgjdkpmljkaaFlat
namespace Go.Proofs.Ytfjdgjdkpmljkaa
open Go.RowKit

theorem limNew_holds {e : Env} {w : World} {R : List HP} (m a : Int) (h : 4 ≤ m ∧ m ≤ 96 ∧ 1 ≤ a ∧ a ≤ 100) (H : Holds e w R) :
    Calls Try.prog 24 #[.int .i64 m, .int .i64 a] w (RetEx e (fun b => .tuple #[.pointer (some ⟨b, 0, none⟩), .int .i64 0]) (fun b => pts b (LimS.obj ⟨m, a, false⟩) :: R)) :=
  (limNew_ok m a h).mono fun _ _ ⟨h1, h2⟩ => ⟨_, h1, by rw [← h2]; exact H.alloc _⟩

section
variable {e : Env} {w : World} {R : List HP}
set_option maxHeartbeats 400000 in
theorem lives26 (H : Holds e w R) : Calls Try.prog 23 #[] w (Ret e (.bool true) R) := by
  have ok : LimS.ok ⟨10, 75, false⟩ := by unfold LimS.ok; decide
  have hl : LimS.low ⟨10, 75, false⟩ = 7 := by decide
  have hr2 : roomL 10 [8, 2] = true := by decide
  have hr3 : roomL 10 [8, 3] = false := by decide
  go_enter Try.func23, Try.ntmps23
  go_wp2_with fail
  refine (limNew_holds 10 75 (by decide) H).mono ?_
  rintro e w1 ⟨b, rfl, H1⟩
  go_wp2_with fail
  refine (retQ (low_ok (by assumption) ok) (by assumption)).mono ?_
  rintro e w2 ⟨rfl, H2⟩
  go_wp2_with fail
  refine (retQ (most_ok (by assumption)) (by assumption)).mono ?_
  rintro e w3 ⟨rfl, H3⟩
  go_wp2_with fail
  refine (room_ok 8 (by decide) (by decide) [2] (by decide) _ 1 (by decide) (reads_lit _ [2] _ _ rfl) (H3.alloc _).drop ok).mono ?_
  rintro e w4 ⟨rfl, H4⟩
  go_wp2_with fail
  refine (room_ok 8 (by decide) (by decide) [3] (by decide) _ 1 (by decide) (reads_lit _ [3] _ _ rfl) (H4.alloc _).drop ok).mono ?_
  rintro e w5 ⟨rfl, H5⟩
  go_wp2
  go_ret
  exact ⟨rfl, H5.drop⟩
end

def u8s (xs : List Int) : List Value := xs.map (Value.int .u8)

set_option maxHeartbeats 1000000 in
theorem limitHolds_walk (W : World) (x y : Int) (hx0 : 0 ≤ x) (hx1 : x ≤ 255) (hy0 : 0 ≤ y) (hy1 : y ≤ 255) (v : Value) (n : Nat) (zs : List Int)
    (hz : ∀ z ∈ zs, 0 ≤ z ∧ z ≤ 255) (hn : n * 1 ≤ 140737488351232) (hr : Reads W v 1 n (u8s zs)) :
    Calls Try.prog 5 #[.int .u8 x, .int .u8 y, v] W fun e w' => e = .returned (.bool true) ∧ Below W.heap.size W w' := by
  have H0 := Holds.start W
  generalize hE : (⟨W.os, W.output, W.tape⟩ : Env) = E at *
  have hbel : ∀ w' A, Holds E w' (base W :: A) → Below W.heap.size W w' := fun w' A h => by subst hE; exact h.below rfl rfl rfl
  clear hE
  obtain ⟨ad, c, rfl⟩ := hr.shape
  have hlen : zs.length = n := by have := hr.len; simpa [u8s] using this
  by_cases hbig : 100 < n
  · go_enter Try.func5, Try.ntmps5
    go_wp2_with fail
    refine (lives26 H0).mono ?_
    rintro e w1 ⟨rfl, H1⟩
    go_wp2
    go_ret
    exact ⟨rfl, hbel _ _ H1⟩
  · have hcell : ∀ k, k < n → ∃ b o, ad = some ⟨b, o, none⟩ ∧ b < W.heap.size ∧ W.cell? ⟨b, o + k, none⟩ = some (.int .u8 (zs.getD k 0)) := by
      intro k hk
      obtain ⟨b, o, rfl, hc⟩ := hr.at (by omega)
      have := hc k (.int .u8 (zs.getD k 0)) (by simp [u8s, List.getD, List.getElem?_eq_getElem (show k < zs.length by omega)])
      exact ⟨b, o, rfl, World.block_lt_of_cell? _ _ this, this⟩
    have hbd : ∀ k, k < n → 0 ≤ zs.getD k 0 ∧ zs.getD k 0 ≤ 255 := by
      intro k hk
      refine hz _ ?_
      simp [List.getD, List.getElem?_eq_getElem (show k < zs.length by omega)]
    clear hz hr hlen
    have hm : 4 ≤ 4 + x % 93 ∧ 4 + x % 93 ≤ 96 ∧ 1 ≤ 1 + y % 100 ∧ 1 + y % 100 ≤ 100 := by omega
    go_enter Try.func5, Try.ntmps5
    go_wp2_with fail
    refine (limNew_holds (4 + x % 93) (1 + y % 100) hm H0).mono ?_
    rintro e w1 ⟨b, rfl, H1⟩
    generalize hM : 4 + x % 93 = M at *
    generalize hA : 1 + y % 100 = AA at *
    have hok : ∀ c, LimS.ok ⟨M, AA, c⟩ := fun _ => hm
    have hbd2 := LimS.low_bd (hok false)
    have hL : ∀ c, LimS.low ⟨M, AA, c⟩ = LimS.low ⟨M, AA, false⟩ := fun _ => rfl
    have hov : ∀ c z, LimS.over ⟨M, AA, c⟩ z = if z < LimS.low ⟨M, AA, false⟩ then 0 else z - LimS.low ⟨M, AA, false⟩ := fun _ _ => rfl
    generalize LimS.low ⟨M, AA, false⟩ = L at *
    obtain ⟨hL0, hL1, hL2⟩ := hbd2
    have HM := Lib.hid hM
    have HA := Lib.hid hA
    have HOV := Lib.hid hov
    clear hM hA hov
    go_wp2_with (first | (go_at_call 25; refine (retQ (low_ok (by assumption) (hok _)) (by assumption)).mono ?_; rintro e w' ⟨rfl, H'⟩) | (go_at_call 26; refine (retQ (most_ok (by assumption)) (by assumption)).mono ?_; rintro e w' ⟨rfl, H'⟩) | (go_at_call 29; refine (retQ (over_ok _ (by omega) (by omega) (by assumption) (hok _)) (by assumption)).mono ?_; rintro e w' ⟨rfl, H'⟩) | (go_at_call 30; refine (room_ok _ (by omega) (by omega) [] (by simp) _ 0 (by decide) (reads_none _ _) (by assumption) (hok _)).mono ?_; rintro e w' ⟨rfl, H'⟩) | (go_at_call 27; refine (close_ok (by assumption)).mono ?_; rintro e w' ⟨rfl, H'⟩))
    go_loopw [9, 10] (fun q i wr => ∃ (k : Nat) (cl : Bool), k ≤ n ∧ i = .int .i64 (k : Nat) ∧ q = .bool cl ∧ Holds E wr (pts b (LimS.obj ⟨M, AA, cl⟩) :: [base W])) (fun _ i _ => n - (intOf i).toNat)
    case atStart => exact ⟨0, false, by omega, rfl, rfl, by assumption⟩
    case round =>
      obtain ⟨k, cl, hk, rfl, rfl, HH⟩ := hrel
      by_cases hlt : k < n
      · obtain ⟨bb, oo, rfl, hbb, hc⟩ := hcell k hlt
        have hcw : wr.cell? ⟨bb, oo + k, none⟩ = some (.int .u8 (zs.getD k 0)) := by rw [← hc]; exact World.cell?_of_block (w := W) (HH.drop.baseE hbb)
        obtain ⟨hz0, hz1⟩ := hbd k hlt
        generalize zs.getD k 0 = z at *
        clear hcell hbd hc
        by_cases h5 : z % 5 = 0
        · have h5' : (z % 5 == 0) = true := by simp [h5]
          clear h5
          go_wp2_with (first | (go_at_call 25; refine (retQ (low_ok (by assumption) (hok _)) (by assumption)).mono ?_; rintro e w' ⟨rfl, H'⟩) | (go_at_call 26; refine (retQ (most_ok (by assumption)) (by assumption)).mono ?_; rintro e w' ⟨rfl, H'⟩) | (go_at_call 29; refine (retQ (over_ok _ (by omega) (by omega) (by assumption) (hok _)) (by assumption)).mono ?_; rintro e w' ⟨rfl, H'⟩) | (go_at_call 30; refine (room_ok _ (by omega) (by omega) [] (by simp) _ 0 (by decide) (reads_none _ _) (by assumption) (hok _)).mono ?_; rintro e w' ⟨rfl, H'⟩) | (go_at_call 27; refine (close_ok (by assumption)).mono ?_; rintro e w' ⟨rfl, H'⟩))
          go_roundw
          case rel => exact ⟨k + 1, true, by omega, by go_num, rfl, by assumption⟩
          case measure => simp [intOf]; omega
        · have h5' : (z % 5 == 0) = false := by simp [h5]
          clear h5
          have hroom : roomL M [z] = decide (z ≤ M) := by
            simp only [roomL]
            by_cases h : M < max 0 z
            · rw [if_pos h, eq_comm, decide_eq_false_iff_not]; omega
            · rw [if_neg h, eq_comm, decide_eq_true_iff]; omega
          have hov : ∀ c, LimS.over ⟨M, AA, c⟩ z = if L < z then z - L else 0 := by
            intro c; rw [HOV.out]; split <;> split <;> omega
          clear HOV HM HA
          by_cases hzm : z ≤ M
          all_goals by_cases hLz : L < z
          all_goals simp only [hLz, hzm, if_true, if_false, decide_true, decide_false] at hov hroom
          all_goals cases cl
          · (go_wp2_with (first | (go_at_call 28; (refine (accepts_yes _ (by assumption) (hok _) (.inl rfl)).mono ?_); rintro e w' ⟨rfl, H'⟩) | (first | (go_at_call 25; refine (retQ (low_ok (by assumption) (hok _)) (by assumption)).mono ?_; rintro e w' ⟨rfl, H'⟩) | (go_at_call 26; refine (retQ (most_ok (by assumption)) (by assumption)).mono ?_; rintro e w' ⟨rfl, H'⟩) | (go_at_call 29; refine (retQ (over_ok _ (by omega) (by omega) (by assumption) (hok _)) (by assumption)).mono ?_; rintro e w' ⟨rfl, H'⟩) | (go_at_call 30; refine (room_ok _ (by omega) (by omega) [] (by simp) _ 0 (by decide) (reads_none _ _) (by assumption) (hok _)).mono ?_; rintro e w' ⟨rfl, H'⟩) | (go_at_call 27; refine (close_ok (by assumption)).mono ?_; rintro e w' ⟨rfl, H'⟩))); go_roundw; (case rel => exact ⟨k + 1, false, by omega, by go_num, (by first | rfl | simp [hLz]), by assumption⟩); (case measure => simp [intOf]; omega))
          · (go_wp2_with (first | (go_at_call 28; (refine (accepts_no _ (by assumption) (hok _) rfl (by rw [hL]; exact hLz)).mono ?_); rintro e w' ⟨rfl, H'⟩) | (first | (go_at_call 25; refine (retQ (low_ok (by assumption) (hok _)) (by assumption)).mono ?_; rintro e w' ⟨rfl, H'⟩) | (go_at_call 26; refine (retQ (most_ok (by assumption)) (by assumption)).mono ?_; rintro e w' ⟨rfl, H'⟩) | (go_at_call 29; refine (retQ (over_ok _ (by omega) (by omega) (by assumption) (hok _)) (by assumption)).mono ?_; rintro e w' ⟨rfl, H'⟩) | (go_at_call 30; refine (room_ok _ (by omega) (by omega) [] (by simp) _ 0 (by decide) (reads_none _ _) (by assumption) (hok _)).mono ?_; rintro e w' ⟨rfl, H'⟩) | (go_at_call 27; refine (close_ok (by assumption)).mono ?_; rintro e w' ⟨rfl, H'⟩))); go_roundw; (case rel => exact ⟨k + 1, true, by omega, by go_num, (by first | rfl | simp [hLz]), by assumption⟩); (case measure => simp [intOf]; omega))
          · (go_wp2_with (first | (go_at_call 28; (refine (accepts_yes _ (by assumption) (hok _) (.inl rfl)).mono ?_); rintro e w' ⟨rfl, H'⟩) | (first | (go_at_call 25; refine (retQ (low_ok (by assumption) (hok _)) (by assumption)).mono ?_; rintro e w' ⟨rfl, H'⟩) | (go_at_call 26; refine (retQ (most_ok (by assumption)) (by assumption)).mono ?_; rintro e w' ⟨rfl, H'⟩) | (go_at_call 29; refine (retQ (over_ok _ (by omega) (by omega) (by assumption) (hok _)) (by assumption)).mono ?_; rintro e w' ⟨rfl, H'⟩) | (go_at_call 30; refine (room_ok _ (by omega) (by omega) [] (by simp) _ 0 (by decide) (reads_none _ _) (by assumption) (hok _)).mono ?_; rintro e w' ⟨rfl, H'⟩) | (go_at_call 27; refine (close_ok (by assumption)).mono ?_; rintro e w' ⟨rfl, H'⟩))); go_roundw; (case rel => exact ⟨k + 1, false, by omega, by go_num, (by first | rfl | simp [hLz]), by assumption⟩); (case measure => simp [intOf]; omega))
          · (go_wp2_with (first | (go_at_call 28; (refine (accepts_yes _ (by assumption) (hok _) (.inr (by rw [hL]; exact hLz))).mono ?_); rintro e w' ⟨rfl, H'⟩) | (first | (go_at_call 25; refine (retQ (low_ok (by assumption) (hok _)) (by assumption)).mono ?_; rintro e w' ⟨rfl, H'⟩) | (go_at_call 26; refine (retQ (most_ok (by assumption)) (by assumption)).mono ?_; rintro e w' ⟨rfl, H'⟩) | (go_at_call 29; refine (retQ (over_ok _ (by omega) (by omega) (by assumption) (hok _)) (by assumption)).mono ?_; rintro e w' ⟨rfl, H'⟩) | (go_at_call 30; refine (room_ok _ (by omega) (by omega) [] (by simp) _ 0 (by decide) (reads_none _ _) (by assumption) (hok _)).mono ?_; rintro e w' ⟨rfl, H'⟩) | (go_at_call 27; refine (close_ok (by assumption)).mono ?_; rintro e w' ⟨rfl, H'⟩))); go_roundw; (case rel => exact ⟨k + 1, false, by omega, by go_num, (by first | rfl | simp [hLz]), by assumption⟩); (case measure => simp [intOf]; omega))
          · (go_wp2_with (first | (go_at_call 28; (refine (accepts_yes _ (by assumption) (hok _) (.inl rfl)).mono ?_); rintro e w' ⟨rfl, H'⟩) | (first | (go_at_call 25; refine (retQ (low_ok (by assumption) (hok _)) (by assumption)).mono ?_; rintro e w' ⟨rfl, H'⟩) | (go_at_call 26; refine (retQ (most_ok (by assumption)) (by assumption)).mono ?_; rintro e w' ⟨rfl, H'⟩) | (go_at_call 29; refine (retQ (over_ok _ (by omega) (by omega) (by assumption) (hok _)) (by assumption)).mono ?_; rintro e w' ⟨rfl, H'⟩) | (go_at_call 30; refine (room_ok _ (by omega) (by omega) [] (by simp) _ 0 (by decide) (reads_none _ _) (by assumption) (hok _)).mono ?_; rintro e w' ⟨rfl, H'⟩) | (go_at_call 27; refine (close_ok (by assumption)).mono ?_; rintro e w' ⟨rfl, H'⟩))); go_roundw; (case rel => exact ⟨k + 1, false, by omega, by go_num, (by first | rfl | simp [hLz]), by assumption⟩); (case measure => simp [intOf]; omega))
          · (go_wp2_with (first | (go_at_call 28; (refine (accepts_no _ (by assumption) (hok _) rfl (by rw [hL]; exact hLz)).mono ?_); rintro e w' ⟨rfl, H'⟩) | (first | (go_at_call 25; refine (retQ (low_ok (by assumption) (hok _)) (by assumption)).mono ?_; rintro e w' ⟨rfl, H'⟩) | (go_at_call 26; refine (retQ (most_ok (by assumption)) (by assumption)).mono ?_; rintro e w' ⟨rfl, H'⟩) | (go_at_call 29; refine (retQ (over_ok _ (by omega) (by omega) (by assumption) (hok _)) (by assumption)).mono ?_; rintro e w' ⟨rfl, H'⟩) | (go_at_call 30; refine (room_ok _ (by omega) (by omega) [] (by simp) _ 0 (by decide) (reads_none _ _) (by assumption) (hok _)).mono ?_; rintro e w' ⟨rfl, H'⟩) | (go_at_call 27; refine (close_ok (by assumption)).mono ?_; rintro e w' ⟨rfl, H'⟩))); go_roundw; (case rel => exact ⟨k + 1, true, by omega, by go_num, (by first | rfl | simp [hLz]), by assumption⟩); (case measure => simp [intOf]; omega))
          · exfalso; omega
          · exfalso; omega
      · go_wp2_with fail
        refine (lives26 HH.drop).mono ?_
        rintro e w1 ⟨rfl, H1⟩
        go_wp2
        go_ret
        exact ⟨rfl, hbel _ _ H1⟩

theorem limitHolds_arg (W : World) (v0 v1 v2 : Value) (a0 : Arg Try.prog W 5 v0) (a1 : Arg Try.prog W 5 v1) (a2 : Arg Try.prog W 42 v2) :
    Calls Try.prog 5 #[v0, v1, v2] W fun e w' => e = .returned (.bool true) ∧ Below W.heap.size W w' := by
  obtain ⟨x, rfl, hx⟩ := a0.int Try.underlying5
  obtain ⟨y, rfl, hy⟩ := a1.int Try.underlying5
  obtain ⟨zs, hr, hb, hz⟩ := a2.ints Try.underlying42 Try.underlying5 (by kernel_rfl)
  have h8 : Try.prog.bytesOf 5 = 1 := by kernel_rfl
  rw [h8] at hb
  have := wf_u8 hx
  have := wf_u8 hy
  exact limitHolds_walk W x y (by omega) (by omega) (by omega) (by omega) v2 _ zs (fun z h => wf_u8 (hz z h)) hb hr

end Go.Proofs.Ytfjdgjdkpmljkaa
