/-
  LimitTells: the walk.
-/
import Derived.Test.YtfjdgjdkpmljkaaLimP
namespace Go.Proofs.Ytfjdgjdkpmljkaa
open Go.RowKit

theorem reads_tail {W : World} {b o n c : Nat} {z : Int} {rest : List Int} (h : Reads W (.slice (some ⟨b, o, none⟩) n c) 1 n (ints (z :: rest))) :
    Reads W (.slice (some ⟨b, o + 1, none⟩) (n - 1) (c - 1)) 1 (n - 1) (ints rest) := by
  obtain ⟨h1, h2⟩ := h
  simp at h1
  refine ⟨by simp; omega, .inr ⟨⟨b, o + 1, none⟩, c - 1, rfl, ?_, fun j u hj => ?_⟩⟩
  · rcases h2 with ⟨h, rfl⟩ | ⟨a, c', h, h', _⟩
    · cases h
    · cases h; omega
  · rcases h2 with ⟨h, rfl⟩ | ⟨a, c', h, h', hr⟩
    · cases h
    · cases h
      have := hr (j + 1) u (by simpa [ints] using hj)
      rw [Addr.add_at] at this ⊢
      rw [← this]
      congr 2
      omega

theorem reads_empty (W : World) (a : Addr) (c : Nat) : Reads W (.slice (some a) 0 c) 1 0 (ints []) := ⟨rfl, .inr ⟨a, c, rfl, Nat.zero_le _, fun j u hj => by cases hj⟩⟩

set_option maxRecDepth 100000 in
set_option maxHeartbeats 1000000 in
theorem limitTells_walk (W : World) (x y : Int) (v : Value) (n : Nat) (zs : List Int) (hz : ∀ z ∈ zs, -9223372036854775808 ≤ z ∧ z ≤ 9223372036854775807) (hl : zs.length = n) (hr : Reads W v 1 n (ints zs)) :
    Calls Try.prog 7 #[.int .i64 x, .int .i64 y, v] W fun e w' => e = .returned (.bool true) ∧ Below W.heap.size W w' := by
  have H0 := Holds.start W
  generalize hE : (⟨W.os, W.output, W.tape⟩ : Env) = E at *
  have hbel : ∀ w' A, Holds E w' (base W :: A) → Below W.heap.size W w' := fun w' A h => by subst hE; exact h.below rfl rfl rfl
  clear hE
  obtain ⟨ad, c, rfl⟩ := hr.shape
  by_cases hbig : 100 < n
  · go_enter Try.func7, Try.ntmps7
    go_wp2_with fail
    refine (lives26 H0).mono ?_
    rintro e w3 ⟨rfl, H3⟩
    go_wp2
    go_ret
    exact ⟨rfl, hbel _ _ H3⟩
  · by_cases hm : 4 ≤ x ∧ x ≤ 96 ∧ 1 ≤ y ∧ y ≤ 100
    · have hM := Lib.hid hm; clear hm
      have hRd := Lib.hid hr
      have hcap : n ≤ c := by
        rcases hr.2 with ⟨h, rfl⟩ | ⟨a', c', h, h', _⟩
        · omega
        · cases h; exact h'
      go_enter Try.func7, Try.ntmps7
      go_wp2_with (first | (go_at_call 27; refine close_nil.mono ?_; rintro e w2 ⟨rfl, k, rfl⟩) | (go_at_call 26; refine most_nil.mono ?_; rintro e w2 ⟨rfl, k, rfl⟩) | (go_at_call 25; refine low_nil.mono ?_; rintro e w2 ⟨rfl, k, rfl⟩) | (go_at_call 37; refine (limSet_nil _).mono ?_; rintro e w2 ⟨rfl, k, rfl⟩) | (go_at_call 30; refine (room_nil _ _).mono ?_; rintro e w2 ⟨rfl, k, rfl⟩) | (go_at_call 29; refine (over_nil _).mono ?_; rintro e w2 ⟨rfl, k, rfl⟩) | (go_at_call 28; refine (accepts_nil _).mono ?_; rintro e w2 ⟨rfl, k, rfl⟩))
      refine (limNew_holds x y hM.out (by first | exact H0 | exact H0.drewN _)).mono ?_
      rintro e w1 ⟨b, rfl, H1⟩
      go_wp2_with fail
      refine (retQ (mayR_yes x y hM.out) H1).mono ?_
      rintro e w2 ⟨rfl, H2⟩
      have HX := H2.alloc (limX x y false)
      go_wp2_with fail
      generalize hbx : w2.heap.size = bx at *
      have HBX := Lib.hid hbx; clear hbx
      unfold limX at HX
      obtain ⟨I, Wf, hI, hW, hWs⟩ := worlds_of (A := [pts bx (limX x y false), pts b (LimS.obj ⟨x, y, false⟩), base W]) HX
      have q0 : ∀ i, (Wf i).cell? ⟨bx, 0, none⟩ = some (.int .i64 x) := fun i => (hW i).cell rfl
      have q1 : ∀ i, (Wf i).cell? ⟨bx, 1, none⟩ = some (.int .i64 y) := fun i => (hW i).cell rfl
      have q2 : ∀ i, (Wf i).cell? ⟨bx, 2, none⟩ = some (.bool false) := fun i => (hW i).cell rfl
      refine wp_region_holds hWs HX (by kernel_rfl) (by kernel_rfl) ?_
      (repeat (go_big_quiet_step ((first | (go_at_call 26; exact quietQ (most_ok (hW _).swap) (hW _) hWs) | (go_at_call 25; exact quietQ (low_ok (hW _).swap hM.out) (hW _) hWs) | (go_at_call 39; exact quietH (lowR_any _ _ _ hM.out (hW _)) hWs))))); refine wpQuiet_nil ?_; intro _ hw'; obtain ⟨nq, hw''⟩ := hw'; subst hw''
      have HX2 := hW nq
      clear q0 q1 q2
      by_cases hn : n = 0
      · subst hn
        have hzs : zs = [] := List.eq_nil_of_length_eq_zero hl
        subst hzs
        clear hz hl hr hbig hcap
        go_wp2
        (obtain ⟨I, Wf, hI, hW, hWs⟩ := worlds_of (A := [pts bx (limX x y false), pts b (LimS.obj ⟨x, y, false⟩), base W]) HX2; have q0 : ∀ i, (Wf i).cell? ⟨bx, 0, none⟩ = some (.int .i64 x) := fun i => (hW i).cell rfl; have q1 : ∀ i, (Wf i).cell? ⟨bx, 1, none⟩ = some (.int .i64 y) := fun i => (hW i).cell rfl; have q2 : ∀ i, (Wf i).cell? ⟨bx, 2, none⟩ = some (.bool false) := fun i => (hW i).cell rfl; refine wp_region_holds hWs HX2 (by kernel_rfl) (by kernel_rfl) ?_; (repeat (go_big_quiet_step ((first | (go_at_call 29; exact quietQ (over_ok _ ((⟨by decide, by decide⟩ : (-9223372036854775808 : Int) ≤ 0 ∧ (0 : Int) ≤ 9223372036854775807)).1 ((⟨by decide, by decide⟩ : (-9223372036854775808 : Int) ≤ 0 ∧ (0 : Int) ≤ 9223372036854775807)).2 (hW _).swap hM.out) (hW _) hWs) | (go_at_call 41; exact quietH (overR_any _ _ _ _ ((⟨by decide, by decide⟩ : (-9223372036854775808 : Int) ≤ 0 ∧ (0 : Int) ≤ 9223372036854775807)).1 ((⟨by decide, by decide⟩ : (-9223372036854775808 : Int) ≤ 0 ∧ (0 : Int) ≤ 9223372036854775807)).2 hM.out (hW _)) hWs) | (go_at_call 30; first | exact quietH (retC (room_ok _ ((⟨by decide, by decide⟩ : (-9223372036854775808 : Int) ≤ 0 ∧ (0 : Int) ≤ 9223372036854775807)).1 ((⟨by decide, by decide⟩ : (-9223372036854775808 : Int) ≤ 0 ∧ (0 : Int) ≤ 9223372036854775807)).2 [] (by simp) _ 0 (by omega) (reads_none _ _) (hW _).swap hM.out) (fun _ h => h.swap)) hWs | exact quietH (retC (room_ok _ ((⟨by decide, by decide⟩ : (-9223372036854775808 : Int) ≤ 0 ∧ (0 : Int) ≤ 9223372036854775807)).1 ((⟨by decide, by decide⟩ : (-9223372036854775808 : Int) ≤ 0 ∧ (0 : Int) ≤ 9223372036854775807)).2 [] (by simp) _ 0 (by omega) (Reads.based hRd.out (hW _).drop.drop) (hW _).swap hM.out) (fun _ h => h.swap)) hWs) | (go_at_call 40; first | exact quietH (roomR_any _ _ _ _ ((⟨by decide, by decide⟩ : (-9223372036854775808 : Int) ≤ 0 ∧ (0 : Int) ≤ 9223372036854775807)).1 ((⟨by decide, by decide⟩ : (-9223372036854775808 : Int) ≤ 0 ∧ (0 : Int) ≤ 9223372036854775807)).2 [] (by simp) _ 0 (by omega) hM.out.2.1 hM.out.1 (reads_none _ _) (hW _)) hWs | exact quietH (roomR_any _ _ _ _ ((⟨by decide, by decide⟩ : (-9223372036854775808 : Int) ≤ 0 ∧ (0 : Int) ≤ 9223372036854775807)).1 ((⟨by decide, by decide⟩ : (-9223372036854775808 : Int) ≤ 0 ∧ (0 : Int) ≤ 9223372036854775807)).2 [] (by simp) _ 0 (by omega) hM.out.2.1 hM.out.1 (Reads.based hRd.out (hW _).drop.drop) (hW _)) hWs) | (go_at_call 23; exact quietH (lives26 (hW _)) hWs))))); refine wpQuiet_nil ?_; intro _ hw'; obtain ⟨nq, hw''⟩ := hw'; subst hw''; have HQ := hW nq; clear q0 q1 q2; go_wp2; go_ret; exact ⟨rfl, hbel _ _ HQ.drop.drop⟩)
      · obtain ⟨b0, o0, rfl, hcell⟩ := hr.at (by omega)
        obtain ⟨z, rest, rfl⟩ : ∃ z rest, zs = z :: rest := by
          cases zs with
          | nil => simp at hl; omega
          | cons z rest => exact ⟨z, rest, rfl⟩
        have hc0 := hcell 0 (.int .i64 z) rfl
        have hb0 := World.block_lt_of_cell? _ _ hc0
        have hc1 : (Wf nq).cell? ⟨b0, o0, none⟩ = some (.int .i64 z) := by rw [← hc0]; exact World.cell?_of_block (w := W) (HX2.drop.drop.baseE hb0)
        obtain ⟨hz0, hzr⟩ := List.forall_mem_cons.1 hz
        have hZ := Lib.hid hz0
        have hlr : rest.length = n - 1 := by simp at hl; omega
        have hRd2 := Lib.hid (reads_tail hr)
        have hpos : 0 < n := by omega
        clear hcell hc0 hz hz0 hr hl
        by_cases hc : c = 1
        · have hn1 : n = 1 := by omega
          subst hc hn1
          have hrest : rest = [] := List.eq_nil_of_length_eq_zero (by omega)
          subst hrest
          have hRd3 := Lib.hid (reads_empty W ⟨b0, o0, none⟩ 0)
          clear hbig hcap hn hpos
          go_wp2
          (obtain ⟨I, Wf, hI, hW, hWs⟩ := worlds_of (A := [pts bx (limX x y false), pts b (LimS.obj ⟨x, y, false⟩), base W]) HX2; have q0 : ∀ i, (Wf i).cell? ⟨bx, 0, none⟩ = some (.int .i64 x) := fun i => (hW i).cell rfl; have q1 : ∀ i, (Wf i).cell? ⟨bx, 1, none⟩ = some (.int .i64 y) := fun i => (hW i).cell rfl; have q2 : ∀ i, (Wf i).cell? ⟨bx, 2, none⟩ = some (.bool false) := fun i => (hW i).cell rfl; refine wp_region_holds hWs HX2 (by kernel_rfl) (by kernel_rfl) ?_; (repeat (go_big_quiet_step ((first | (go_at_call 29; exact quietQ (over_ok _ (hZ.out).1 (hZ.out).2 (hW _).swap hM.out) (hW _) hWs) | (go_at_call 41; exact quietH (overR_any _ _ _ _ (hZ.out).1 (hZ.out).2 hM.out (hW _)) hWs) | (go_at_call 30; first | exact quietH (retC (room_ok _ (hZ.out).1 (hZ.out).2 [] (by simp) _ 0 (by omega) (reads_none _ _) (hW _).swap hM.out) (fun _ h => h.swap)) hWs | exact quietH (retC (room_ok _ (hZ.out).1 (hZ.out).2 [] (by simp) _ 0 (by omega) (Reads.based hRd3.out (hW _).drop.drop) (hW _).swap hM.out) (fun _ h => h.swap)) hWs) | (go_at_call 40; first | exact quietH (roomR_any _ _ _ _ (hZ.out).1 (hZ.out).2 [] (by simp) _ 0 (by omega) hM.out.2.1 hM.out.1 (reads_none _ _) (hW _)) hWs | exact quietH (roomR_any _ _ _ _ (hZ.out).1 (hZ.out).2 [] (by simp) _ 0 (by omega) hM.out.2.1 hM.out.1 (Reads.based hRd3.out (hW _).drop.drop) (hW _)) hWs) | (go_at_call 23; exact quietH (lives26 (hW _)) hWs))))); refine wpQuiet_nil ?_; intro _ hw'; obtain ⟨nq, hw''⟩ := hw'; subst hw''; have HQ := hW nq; clear q0 q1 q2; go_wp2; go_ret; exact ⟨rfl, hbel _ _ HQ.drop.drop⟩)
        · have hc' : 1 < c := by omega
          clear hc hn
          go_wp2
          (obtain ⟨I, Wf, hI, hW, hWs⟩ := worlds_of (A := [pts bx (limX x y false), pts b (LimS.obj ⟨x, y, false⟩), base W]) HX2; have q0 : ∀ i, (Wf i).cell? ⟨bx, 0, none⟩ = some (.int .i64 x) := fun i => (hW i).cell rfl; have q1 : ∀ i, (Wf i).cell? ⟨bx, 1, none⟩ = some (.int .i64 y) := fun i => (hW i).cell rfl; have q2 : ∀ i, (Wf i).cell? ⟨bx, 2, none⟩ = some (.bool false) := fun i => (hW i).cell rfl; refine wp_region_holds hWs HX2 (by kernel_rfl) (by kernel_rfl) ?_; (repeat (go_big_quiet_step ((first | (go_at_call 29; exact quietQ (over_ok _ (hZ.out).1 (hZ.out).2 (hW _).swap hM.out) (hW _) hWs) | (go_at_call 41; exact quietH (overR_any _ _ _ _ (hZ.out).1 (hZ.out).2 hM.out (hW _)) hWs) | (go_at_call 30; first | exact quietH (retC (room_ok _ (hZ.out).1 (hZ.out).2 [] (by simp) _ 0 (by omega) (reads_none _ _) (hW _).swap hM.out) (fun _ h => h.swap)) hWs | exact quietH (retC (room_ok _ (hZ.out).1 (hZ.out).2 rest hzr _ (n - 1) (by omega) (Reads.based hRd2.out (hW _).drop.drop) (hW _).swap hM.out) (fun _ h => h.swap)) hWs) | (go_at_call 40; first | exact quietH (roomR_any _ _ _ _ (hZ.out).1 (hZ.out).2 [] (by simp) _ 0 (by omega) hM.out.2.1 hM.out.1 (reads_none _ _) (hW _)) hWs | exact quietH (roomR_any _ _ _ _ (hZ.out).1 (hZ.out).2 rest hzr _ (n - 1) (by omega) hM.out.2.1 hM.out.1 (Reads.based hRd2.out (hW _).drop.drop) (hW _)) hWs) | (go_at_call 23; exact quietH (lives26 (hW _)) hWs))))); refine wpQuiet_nil ?_; intro _ hw'; obtain ⟨nq, hw''⟩ := hw'; subst hw''; have HQ := hW nq; clear q0 q1 q2; go_wp2; go_ret; exact ⟨rfl, hbel _ _ HQ.drop.drop⟩)
    · have hM := Lib.hid hm; clear hm
      go_enter Try.func7, Try.ntmps7
      go_wp2_with (first | (go_at_call 27; refine close_nil.mono ?_; rintro e w2 ⟨rfl, k, rfl⟩) | (go_at_call 26; refine most_nil.mono ?_; rintro e w2 ⟨rfl, k, rfl⟩) | (go_at_call 25; refine low_nil.mono ?_; rintro e w2 ⟨rfl, k, rfl⟩) | (go_at_call 37; refine (limSet_nil _).mono ?_; rintro e w2 ⟨rfl, k, rfl⟩) | (go_at_call 30; refine (room_nil _ _).mono ?_; rintro e w2 ⟨rfl, k, rfl⟩) | (go_at_call 29; refine (over_nil _).mono ?_; rintro e w2 ⟨rfl, k, rfl⟩) | (go_at_call 28; refine (accepts_nil _).mono ?_; rintro e w2 ⟨rfl, k, rfl⟩))
      refine (limNew_err x y hM.out).mono ?_
      rintro e w1 ⟨rfl, rfl⟩
      go_wp2_with fail
      refine (retQ (mayR_no x y hM.out) (by first | exact H0 | exact H0.drewN _)).mono ?_
      rintro e w2 ⟨rfl, H2⟩
      go_wp2_with fail
      refine (lives26 H2).mono ?_
      rintro e w3 ⟨rfl, H3⟩
      go_wp2
      go_ret
      exact ⟨rfl, hbel _ _ H3⟩

set_option maxRecDepth 100000 in
theorem limitTells_arg (W : World) (v0 v1 v2 : Value) (a0 : Arg Try.prog W 3 v0) (a1 : Arg Try.prog W 3 v1) (a2 : Arg Try.prog W 56 v2) :
    Calls Try.prog 7 #[v0, v1, v2] W fun e w' => e = .returned (.bool true) ∧ Below W.heap.size W w' := by
  obtain ⟨x, rfl, _⟩ := a0.int Try.underlying3
  obtain ⟨y, rfl, _⟩ := a1.int Try.underlying3
  obtain ⟨zs, hr, _, hz⟩ := a2.ints Try.underlying56 Try.underlying3 (by kernel_rfl)
  exact limitTells_walk W x y v2 _ zs (fun z h => wf_i64 (hz z h)) rfl hr

end Go.Proofs.Ytfjdgjdkpmljkaa
