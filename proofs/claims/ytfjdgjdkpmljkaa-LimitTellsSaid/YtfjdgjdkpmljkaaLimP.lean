/-
  LimitPlays: the walk.
-/
import Derived.Test.YtfjdgjdkpmljkaaLim3
import Derived.Test.YtfjdgjdkpmljkaaLimL
import Derived.Test.YtfjdgjdkpmljkaaFlat
namespace Go.Proofs.Ytfjdgjdkpmljkaa
open Go.RowKit

def limX (M A : Int) (c : Bool) : Obj := .cells #[.int .i64 M, .int .i64 A, .bool c] 59 (0, 0)

/-- What stands at the end of each round. -/
def LimR (E : Env) (W : World) (bx b : Nat) (M A : Int) (c : Bool) (w : World) : Prop := Holds E w [pts bx (limX M A c), pts b (LimS.obj ⟨M, A, c⟩), base W]

set_option maxRecDepth 100000 in
set_option maxHeartbeats 1000000 in
theorem limitPlays_walk (W : World) (x y : Int) (v : Value) (n : Nat) (zs : List Int)
    (hz : ∀ z ∈ zs, -9223372036854775808 ≤ z ∧ z ≤ 9223372036854775807) (hl : zs.length = n * 2) (hr : Reads W v 2 n (ints zs)) :
    Calls Try.prog 8 #[.int .i64 x, .int .i64 y, v] W fun e w' => e = .returned (.bool true) ∧ Below W.heap.size W w' := by
  have H0 := Holds.start W
  generalize hE : (⟨W.os, W.output, W.tape⟩ : Env) = E at *
  have hbel : ∀ w' A, Holds E w' (base W :: A) → Below W.heap.size W w' := fun w' A h => by subst hE; exact h.below rfl rfl rfl
  clear hE
  obtain ⟨ad, c, rfl⟩ := hr.shape
  by_cases hm : 4 ≤ x ∧ x ≤ 96 ∧ 1 ≤ y ∧ y ≤ 100
  · by_cases hbig : 100 < n
    · have hM := Lib.hid hm; clear hm
      go_enter Try.func8, Try.ntmps8
      go_wp2_with fail
      refine (limNew_holds x y hM.out (H0.alloc _)).mono ?_
      rintro e w1 ⟨b, rfl, H1⟩
      go_wp2_with fail
      refine (retQ (mayR_yes x y hM.out) H1).mono ?_
      rintro e w2 ⟨rfl, H2⟩
      go_wp2_with fail
      refine (lives26 H2).mono ?_
      rintro e w3 ⟨rfl, H3⟩
      go_wp2
      go_ret
      exact ⟨rfl, hbel _ _ H3.drop.drop⟩
    · have hM := Lib.hid hm; clear hm
      go_enter Try.func8, Try.ntmps8
      go_wp2_with fail
      refine (limNew_holds x y hM.out (H0.alloc (limX x y false))).mono ?_
      rintro e w1 ⟨b, rfl, H1⟩
      go_wp2_with fail
      generalize hbx : W.heap.size = bx at *
      have HBX := Lib.hid hbx; clear hbx
      have hBD : ∀ k, _ := getD_bd hz
      have hcell := flat_at hr hl
      clear hr hz hl
      go_loopw [10] (fun i wr => ∃ (k : Nat) (M : Int) (cl : Bool), k ≤ n ∧ 4 ≤ M ∧ M ≤ 96 ∧ i = .int .i64 (k : Nat) ∧ LimR E W bx b M y cl wr) (fun i _ => n - (intOf i).toNat)
      case atStart => exact ⟨0, x, false, by omega, hM.out.1, hM.out.2.1, rfl, H1.swap⟩
      case round =>
        obtain ⟨k, M, cl, hk, hM0, hM1, rfl, HH⟩ := hrel
        unfold LimR at HH
        by_cases hlt : k < n
        · obtain ⟨bb, oo, rfl, hbb, hc⟩ := hcell k 0 hlt (by omega)
          have hc0 : wr.cell? ⟨bb, oo + k * 2, none⟩ = some (.int .i64 (zs.getD (k * 2 + 0) 0)) := by rw [← hc 0 (by omega)]; exact World.cell?_of_block (w := W) (HH.drop.drop.baseE hbb)
          have hc1 : wr.cell? ⟨bb, oo + k * 2 + 1, none⟩ = some (.int .i64 (zs.getD (k * 2 + 1) 0)) := by rw [← hc 1 (by omega)]; exact World.cell?_of_block (w := W) (HH.drop.drop.baseE hbb)
          obtain ⟨hK0, hK1⟩ := hBD (k * 2 + 0)
          obtain ⟨hN0, hN1⟩ := hBD (k * 2 + 1)
          generalize zs.getD (k * 2 + 0) 0 = K at *
          generalize zs.getD (k * 2 + 1) 0 = N at *
          clear hcell hBD hc
          have hok : ∀ c, LimS.ok ⟨M, y, c⟩ := fun _ => ⟨hM0, hM1, hM.out.2.2.1, hM.out.2.2.2⟩
          have hmay : 4 ≤ M ∧ M ≤ 96 ∧ 1 ≤ y ∧ y ≤ 100 := hok false
          have hX := Lib.hid hmay
          have hfx : ∀ i, wr.frozen? ⟨bx, i, none⟩ = false := HH.frozen
          have x0 : wr.cell? ⟨bx, 0, none⟩ = some (.int .i64 M) := HH.cell rfl
          have x1 : wr.cell? ⟨bx, 1, none⟩ = some (.int .i64 y) := HH.cell rfl
          have x2 : wr.cell? ⟨bx, 2, none⟩ = some (.bool cl) := HH.cell rfl
          clear hmay
          by_cases h2 : K = 2
          · subst h2
            go_wp2_with ((go_at_call 27; refine (close_ok (HH.set 2 _).swap).mono ?_; rintro e w2 ⟨rfl, H2⟩))
            (obtain ⟨I, Wf, hI, hW, hWs⟩ := worlds_of (A := [pts bx (limX M y true), pts b (LimS.obj ⟨M, y, true⟩), base W]) H2.swap; have q0 : ∀ i, (Wf i).cell? ⟨bx, 0, none⟩ = some (.int .i64 M) := fun i => (hW i).cell rfl; have q1 : ∀ i, (Wf i).cell? ⟨bx, 1, none⟩ = some (.int .i64 y) := fun i => (hW i).cell rfl; have q2 : ∀ i, (Wf i).cell? ⟨bx, 2, none⟩ = some (.bool true) := fun i => (hW i).cell rfl; have hok' : LimS.ok ⟨M, y, true⟩ := ⟨by omega, by omega, hX.out.2.2.1, hX.out.2.2.2⟩; refine wp_region_holds hWs H2.swap (by kernel_rfl) (by kernel_rfl) ?_; (repeat (go_big_quiet_step ((first | (go_at_call 26; exact quietQ (most_ok (hW _).swap) (hW _) hWs) | (go_at_call 25; exact quietQ (low_ok (hW _).swap hok') (hW _) hWs) | (go_at_call 29; exact quietQ (over_ok _ hN0 hN1 (hW _).swap hok') (hW _) hWs) | (go_at_call 39; exact quietH (lowR_any _ _ _ hok' (hW _)) hWs) | (go_at_call 41; exact quietH (overR_any _ _ _ _ hN0 hN1 hok' (hW _)) hWs))))); refine wpQuiet_nil ?_; intro _ hw'; obtain ⟨nq, hw''⟩ := hw'; subst hw''; have HQ := hW nq; clear q0 q1 q2; go_wp2; go_roundw; (case rel => exact ⟨k + 1, M, true, by omega, by omega, by omega, by go_num, HQ⟩); (case measure => simp [intOf]; omega))
          · by_cases h01 : K = 0 ∨ K = 1
            · have hKs : (K == 0) = true ∨ ((K == 0) = false ∧ (K == 1) = true) := by rcases h01 with rfl | rfl <;> simp
              clear h01 h2 hK0 hK1
              cases cl
              · rcases hKs with h | ⟨h, h'⟩
                all_goals
                  go_wp2_with ((go_at_call 28; refine (accepts_yes N (HH.set 2 _).swap (hok _) (.inl rfl)).mono ?_; rintro e w2 ⟨rfl, H2⟩))
                  (obtain ⟨I, Wf, hI, hW, hWs⟩ := worlds_of (A := [pts bx (limX M y false), pts b (LimS.obj ⟨M, y, false⟩), base W]) H2.swap; have q0 : ∀ i, (Wf i).cell? ⟨bx, 0, none⟩ = some (.int .i64 M) := fun i => (hW i).cell rfl; have q1 : ∀ i, (Wf i).cell? ⟨bx, 1, none⟩ = some (.int .i64 y) := fun i => (hW i).cell rfl; have q2 : ∀ i, (Wf i).cell? ⟨bx, 2, none⟩ = some (.bool false) := fun i => (hW i).cell rfl; have hok' : LimS.ok ⟨M, y, false⟩ := ⟨by omega, by omega, hX.out.2.2.1, hX.out.2.2.2⟩; refine wp_region_holds hWs H2.swap (by kernel_rfl) (by kernel_rfl) ?_; (repeat (go_big_quiet_step ((first | (go_at_call 26; exact quietQ (most_ok (hW _).swap) (hW _) hWs) | (go_at_call 25; exact quietQ (low_ok (hW _).swap hok') (hW _) hWs) | (go_at_call 29; exact quietQ (over_ok _ hN0 hN1 (hW _).swap hok') (hW _) hWs) | (go_at_call 39; exact quietH (lowR_any _ _ _ hok' (hW _)) hWs) | (go_at_call 41; exact quietH (overR_any _ _ _ _ hN0 hN1 hok' (hW _)) hWs))))); refine wpQuiet_nil ?_; intro _ hw'; obtain ⟨nq, hw''⟩ := hw'; subst hw''; have HQ := hW nq; clear q0 q1 q2; go_wp2; go_roundw; (case rel => exact ⟨k + 1, M, false, by omega, by omega, by omega, by go_num, HQ⟩); (case measure => simp [intOf]; omega))
              · by_cases hLN : LimS.low ⟨M, y, true⟩ < N
                · have hLN' : ¬ N ≤ LimS.low ⟨M, y, true⟩ := by omega
                  rcases hKs with h | ⟨h, h'⟩
                  all_goals
                    go_wp2_with fail
                    refine (lowR_any _ _ _ (hok true) HH).mono ?_
                    rintro e w2 ⟨rfl, H2⟩
                    go_wp2_with fail
                    refine (accepts_no N H2.swap (hok _) rfl hLN).mono ?_
                    rintro e w3 ⟨rfl, H3⟩
                    go_wp2
                    (obtain ⟨I, Wf, hI, hW, hWs⟩ := worlds_of (A := [pts bx (limX M y true), pts b (LimS.obj ⟨M, y, true⟩), base W]) H3.swap; have q0 : ∀ i, (Wf i).cell? ⟨bx, 0, none⟩ = some (.int .i64 M) := fun i => (hW i).cell rfl; have q1 : ∀ i, (Wf i).cell? ⟨bx, 1, none⟩ = some (.int .i64 y) := fun i => (hW i).cell rfl; have q2 : ∀ i, (Wf i).cell? ⟨bx, 2, none⟩ = some (.bool true) := fun i => (hW i).cell rfl; have hok' : LimS.ok ⟨M, y, true⟩ := ⟨by omega, by omega, hX.out.2.2.1, hX.out.2.2.2⟩; refine wp_region_holds hWs H3.swap (by kernel_rfl) (by kernel_rfl) ?_; (repeat (go_big_quiet_step ((first | (go_at_call 26; exact quietQ (most_ok (hW _).swap) (hW _) hWs) | (go_at_call 25; exact quietQ (low_ok (hW _).swap hok') (hW _) hWs) | (go_at_call 29; exact quietQ (over_ok _ hN0 hN1 (hW _).swap hok') (hW _) hWs) | (go_at_call 39; exact quietH (lowR_any _ _ _ hok' (hW _)) hWs) | (go_at_call 41; exact quietH (overR_any _ _ _ _ hN0 hN1 hok' (hW _)) hWs))))); refine wpQuiet_nil ?_; intro _ hw'; obtain ⟨nq, hw''⟩ := hw'; subst hw''; have HQ := hW nq; clear q0 q1 q2; go_wp2; go_roundw; (case rel => exact ⟨k + 1, M, true, by omega, by omega, by omega, by go_num, HQ⟩); (case measure => simp [intOf]; omega))
                · have hLN' : N ≤ LimS.low ⟨M, y, true⟩ := by omega
                  rcases hKs with h | ⟨h, h'⟩
                  all_goals
                    go_wp2_with fail
                    refine (lowR_any _ _ _ (hok true) HH).mono ?_
                    rintro e w2 ⟨rfl, H2⟩
                    have hfx2 : ∀ i, w2.frozen? ⟨bx, i, none⟩ = false := H2.frozen
                    have x22 : w2.cell? ⟨bx, 2, none⟩ = some (.bool true) := H2.cell rfl
                    go_wp2_with ((go_at_call 28; refine (accepts_yes N (H2.set 2 _).swap (hok _) (.inr (Int.not_lt.2 hLN'))).mono ?_; rintro e w3 ⟨rfl, H3⟩))
                    (obtain ⟨I, Wf, hI, hW, hWs⟩ := worlds_of (A := [pts bx (limX M y false), pts b (LimS.obj ⟨M, y, false⟩), base W]) H3.swap; have q0 : ∀ i, (Wf i).cell? ⟨bx, 0, none⟩ = some (.int .i64 M) := fun i => (hW i).cell rfl; have q1 : ∀ i, (Wf i).cell? ⟨bx, 1, none⟩ = some (.int .i64 y) := fun i => (hW i).cell rfl; have q2 : ∀ i, (Wf i).cell? ⟨bx, 2, none⟩ = some (.bool false) := fun i => (hW i).cell rfl; have hok' : LimS.ok ⟨M, y, false⟩ := ⟨by omega, by omega, hX.out.2.2.1, hX.out.2.2.2⟩; refine wp_region_holds hWs H3.swap (by kernel_rfl) (by kernel_rfl) ?_; (repeat (go_big_quiet_step ((first | (go_at_call 26; exact quietQ (most_ok (hW _).swap) (hW _) hWs) | (go_at_call 25; exact quietQ (low_ok (hW _).swap hok') (hW _) hWs) | (go_at_call 29; exact quietQ (over_ok _ hN0 hN1 (hW _).swap hok') (hW _) hWs) | (go_at_call 39; exact quietH (lowR_any _ _ _ hok' (hW _)) hWs) | (go_at_call 41; exact quietH (overR_any _ _ _ _ hN0 hN1 hok' (hW _)) hWs))))); refine wpQuiet_nil ?_; intro _ hw'; obtain ⟨nq, hw''⟩ := hw'; subst hw''; have HQ := hW nq; clear q0 q1 q2; go_wp2; go_roundw; (case rel => exact ⟨k + 1, M, false, by omega, by omega, by omega, by go_num, HQ⟩); (case measure => simp [intOf]; omega))
            · have hK0' : (K == 0) = false := by simp; omega
              have hK1' : (K == 1) = false := by simp; omega
              have hK2' : (K == 2) = false := by simp; omega
              clear h01 h2 hK0 hK1
              by_cases hS : 4 ≤ N ∧ N ≤ 96
              · obtain ⟨hS1, hS2⟩ := hS
                go_wp2_with ((go_at_call 37; refine (limSet_yes N ⟨hS1, hS2⟩ (HH.set 0 _).swap).mono ?_; rintro e w2 ⟨rfl, H2⟩))
                (obtain ⟨I, Wf, hI, hW, hWs⟩ := worlds_of (A := [pts bx (limX N y cl), pts b (LimS.obj ⟨N, y, cl⟩), base W]) H2.swap; have q0 : ∀ i, (Wf i).cell? ⟨bx, 0, none⟩ = some (.int .i64 N) := fun i => (hW i).cell rfl; have q1 : ∀ i, (Wf i).cell? ⟨bx, 1, none⟩ = some (.int .i64 y) := fun i => (hW i).cell rfl; have q2 : ∀ i, (Wf i).cell? ⟨bx, 2, none⟩ = some (.bool cl) := fun i => (hW i).cell rfl; have hok' : LimS.ok ⟨N, y, cl⟩ := ⟨by omega, by omega, hX.out.2.2.1, hX.out.2.2.2⟩; refine wp_region_holds hWs H2.swap (by kernel_rfl) (by kernel_rfl) ?_; (repeat (go_big_quiet_step ((first | (go_at_call 26; exact quietQ (most_ok (hW _).swap) (hW _) hWs) | (go_at_call 25; exact quietQ (low_ok (hW _).swap hok') (hW _) hWs) | (go_at_call 29; exact quietQ (over_ok _ hN0 hN1 (hW _).swap hok') (hW _) hWs) | (go_at_call 39; exact quietH (lowR_any _ _ _ hok' (hW _)) hWs) | (go_at_call 41; exact quietH (overR_any _ _ _ _ hN0 hN1 hok' (hW _)) hWs))))); refine wpQuiet_nil ?_; intro _ hw'; obtain ⟨nq, hw''⟩ := hw'; subst hw''; have HQ := hW nq; clear q0 q1 q2; go_wp2; go_roundw; (case rel => exact ⟨k + 1, N, cl, by omega, by omega, by omega, by go_num, HQ⟩); (case measure => simp [intOf]; omega))
              · have hS' : N < 4 ∨ (4 ≤ N ∧ 96 < N) := by omega
                have HS := Lib.hid hS; clear hS
                rcases hS' with h | ⟨h, h'⟩
                all_goals
                  go_wp2_with ((go_at_call 37; refine (retQ (limSet_no N HS.out) HH).mono ?_; rintro e w2 ⟨rfl, H2⟩))
                  (obtain ⟨I, Wf, hI, hW, hWs⟩ := worlds_of (A := [pts bx (limX M y cl), pts b (LimS.obj ⟨M, y, cl⟩), base W]) H2; have q0 : ∀ i, (Wf i).cell? ⟨bx, 0, none⟩ = some (.int .i64 M) := fun i => (hW i).cell rfl; have q1 : ∀ i, (Wf i).cell? ⟨bx, 1, none⟩ = some (.int .i64 y) := fun i => (hW i).cell rfl; have q2 : ∀ i, (Wf i).cell? ⟨bx, 2, none⟩ = some (.bool cl) := fun i => (hW i).cell rfl; have hok' : LimS.ok ⟨M, y, cl⟩ := ⟨by omega, by omega, hX.out.2.2.1, hX.out.2.2.2⟩; refine wp_region_holds hWs H2 (by kernel_rfl) (by kernel_rfl) ?_; (repeat (go_big_quiet_step ((first | (go_at_call 26; exact quietQ (most_ok (hW _).swap) (hW _) hWs) | (go_at_call 25; exact quietQ (low_ok (hW _).swap hok') (hW _) hWs) | (go_at_call 29; exact quietQ (over_ok _ hN0 hN1 (hW _).swap hok') (hW _) hWs) | (go_at_call 39; exact quietH (lowR_any _ _ _ hok' (hW _)) hWs) | (go_at_call 41; exact quietH (overR_any _ _ _ _ hN0 hN1 hok' (hW _)) hWs))))); refine wpQuiet_nil ?_; intro _ hw'; obtain ⟨nq, hw''⟩ := hw'; subst hw''; have HQ := hW nq; clear q0 q1 q2; go_wp2; go_roundw; (case rel => exact ⟨k + 1, M, cl, by omega, by omega, by omega, by go_num, HQ⟩); (case measure => simp [intOf]; omega))
        · go_wp2_with fail
          refine (lives26 HH.drop.drop).mono ?_
          rintro e w1 ⟨rfl, H1⟩
          go_wp2
          go_ret
          exact ⟨rfl, by rw [HBX.out]; exact hbel _ _ H1⟩
  · have hM := Lib.hid hm; clear hm
    go_enter Try.func8, Try.ntmps8
    go_wp2_with fail
    refine (limNew_err x y hM.out).mono ?_
    rintro e w1 ⟨rfl, rfl⟩
    go_wp2_with fail
    refine (retQ (mayR_no x y hM.out) (H0.alloc _)).mono ?_
    rintro e w2 ⟨rfl, H2⟩
    go_wp2_with fail
    refine (lives26 H2).mono ?_
    rintro e w3 ⟨rfl, H3⟩
    go_wp2
    go_ret
    exact ⟨rfl, hbel _ _ H3.drop⟩

set_option maxRecDepth 100000 in
theorem limitPlays_arg (W : World) (v0 v1 v2 : Value) (a0 : Arg Try.prog W 3 v0) (a1 : Arg Try.prog W 3 v1) (a2 : Arg Try.prog W 64 v2) :
    Calls Try.prog 8 #[v0, v1, v2] W fun e w' => e = .returned (.bool true) ∧ Below W.heap.size W w' := by
  obtain ⟨x, rfl, _⟩ := a0.int Try.underlying3
  obtain ⟨y, rfl, _⟩ := a1.int Try.underlying3
  obtain ⟨n, xs, hr, _, hf⟩ := a2.slice Try.underlying64
  have h2 : Try.prog.cellsOf 66 = 2 := by kernel_rfl
  rw [h2] at hr hf
  obtain ⟨zs, rfl, hl, hz⟩ := arg_flatInts hr hf (fun j hj => by
    match j, hj with
    | 0, _ => exact ⟨3, by kernel_rfl, Try.underlying3⟩
    | 1, _ => exact ⟨3, by kernel_rfl, Try.underlying3⟩)
  exact limitPlays_walk W x y v2 _ zs (fun z h => wf_i64 (hz z h)) hl hr

end Go.Proofs.Ytfjdgjdkpmljkaa
