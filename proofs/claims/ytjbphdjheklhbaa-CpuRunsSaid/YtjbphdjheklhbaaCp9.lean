/-
  Package cpu: Run; what a cpu tells.
-/
import Derived.Test.YtjbphdjheklhbaaCp8
namespace Go.Proofs.Ytjbphdjheklhbaa
open Go.RowKit

/-- A run: how many steps were done, the error, the cpu, the pages. -/
def runF : Nat → List Pg → CpS → Nat × Nat × CpS × List Pg
  | 0, M, C => (0, 0, C, M)
  | k + 1, M, C =>
    if C.halted = true then (0, 0, C, M) else
    if (stepS M C).1 ≠ 0 then (0, (stepS M C).1, C, M) else
    ((runF k (stepS M C).2.2 (stepS M C).2.1).1 + 1, (runF k (stepS M C).2.2 (stepS M C).2.1).2.1, (runF k (stepS M C).2.2 (stepS M C).2.1).2.2.1, (runF k (stepS M C).2.2 (stepS M C).2.1).2.2.2)
theorem stepS_err {M : List Pg} {C : CpS} (h : (stepS M C).1 ≠ 0) : (stepS M C).2 = (C, M) := by
  unfold stepS at h ⊢
  repeat' split at h
  all_goals first
    | exact absurd rfl h
    | (simp only [*, if_true, if_false, ne_eq, not_false_eq_true]; done)
    | (simp_all; done)
theorem stepS_done {M : List Pg} {C : CpS} : (stepS M C).2.1.done ≤ C.done + 1 := by
  unfold stepS
  repeat' split
  all_goals first | exact Nat.le_succ _ | exact Nat.le_refl _

section
variable {e : Env} {w : World} {R : List HP} {m b : Nat} {M : List Pg} {C : CpS}
set_option maxRecDepth 100000 in
set_option maxHeartbeats 2000000 in
theorem cpuRun (hC : CpOk C) (most : Int) (hm0 : -9223372036854775808 ≤ most) (hm1 : most ≤ 1000000) (hdn : C.done ≤ 1000000000) (H : Holds e w (cpH b C :: modH m M :: R)) :
    Calls Try.prog 35 #[.pointer (some ⟨b, 0, none⟩), coreV m, .int .i64 most] w
      (Ret e (.tuple #[.int .i64 (runF most.toNat M C).1, .int .i64 (runF most.toNat M C).2.1]) (cpH b (runF most.toNat M C).2.2.1 :: modH m (runF most.toNat M C).2.2.2 :: R)) := by
  have hq : ∀ w, (binOp .eql 92 (coreV m) .nilIface).run Try.prog w = .ok (.bool false) w := fun w => by kernel_rfl
  obtain ⟨T, hT⟩ : ∃ T, runF most.toNat M C = T := ⟨_, rfl⟩
  rw [hT]
  have HT := Lib.hid hT
  have HC0 := Lib.hid hC
  have CS := Lib.hid fun w' M' C' (h1 : CpOk C') (h2 : C'.done ≤ 2000000000) (h' : Holds e w' (cpH b C' :: modH m M' :: R)) => cpuStep h1 (by omega) h'
  obtain ⟨d0, hd0⟩ : ∃ d0, C.done = d0 := ⟨_, rfl⟩
  have HD0 := Lib.hid hd0
  rw [hd0] at hdn
  unfold coreV memV at *
  clear hT hC hd0
  go_enter Try.func35, Try.ntmps35
  go_wp2_with fail
  go_loopw [8] (fun n wr => ∃ (i k : Nat) (C' : CpS) (M' : List Pg), n = .int .i64 (i : Nat) ∧ i ≤ 1000000 ∧ most.toNat = i + k ∧ Hid (CpOk C') ∧ C'.done ≤ d0 + i ∧ Hid (T = ((runF k M' C').1 + i, (runF k M' C').2.1, (runF k M' C').2.2.1, (runF k M' C').2.2.2)) ∧ Holds e wr (cpH b C' :: modH m M' :: R)) (fun n _ => most.toNat - (Go.RowKit.intOf n).toNat)
  case atStart => exact ⟨0, most.toNat, C, M, rfl, by omega, by omega, HC0, by rw [HD0.out]; omega, Lib.hid HT.out.symm, H⟩
  case round =>
    clear H
    obtain ⟨i, k, C', M', rfl, hi, hik, hC', hdC, hTT, HX⟩ := hrel
    have hl := hC'.out.len
    have c6 := cpH.cell HX (cp_halted hl)
    obtain ⟨hd, hhd⟩ : ∃ hd, C'.halted = hd := ⟨_, rfl⟩
    rw [hhd] at c6
    have hC2 := hC'.out
    by_cases hk : k = 0
    · subst hk
      have hlt : decide ((i : Int) < most) = false := decide_eq_false (by omega)
      have HF : Hid (T = (i, 0, C', M')) := Lib.hid (by rw [hTT.out]; simp [runF])
      have HH := Lib.hid HX
      clear hTT HX hhd hC2
      go_wp2_with fail
      go_ret2
      exact ⟨by rw [HF.out]; rfl, by rw [HF.out]; exact HH.out⟩
    · obtain ⟨k', rfl⟩ : ∃ k', k = k' + 1 := ⟨k - 1, by omega⟩
      have hlt : decide ((i : Int) < most) = true := decide_eq_true (by omega)
      cases hd
      · obtain ⟨Y, hY⟩ : ∃ Y, stepS M' C' = Y := ⟨_, rfl⟩
        have CSx := Lib.hid (CS.out _ _ _ hC2 (by omega) HX)
        have hYo := stepS_ok (M := M') hC2
        have hYd := stepS_done (M := M') (C := C')
        have hYe := stepS_err (M := M') (C := C')
        have hTY : T = if Y.1 ≠ 0 then (i, Y.1, C', M') else ((runF k' Y.2.2 Y.2.1).1 + (i + 1), (runF k' Y.2.2 Y.2.1).2.1, (runF k' Y.2.2 Y.2.1).2.2.1, (runF k' Y.2.2 Y.2.1).2.2.2) := by
          rw [hTT.out]
          conv => lhs; unfold runF
          rw [hhd, if_neg (by decide), hY]
          split
          · simp
          · simp only [Prod.mk.injEq, and_true]
            omega
        rw [hY] at CSx hYo hYd hYe
        obtain ⟨E2, C2, M2⟩ := Y
        dsimp only at *
        by_cases hE : E2 = 0
        · subst hE
          rw [if_neg (by decide)] at hTY
          have HTY := Lib.hid hTY
          have HYO := Lib.hid hYo
          clear hTT HX hTY hYe hY hhd hC2 hYo
          go_wp2_with fail
          refine CSx.out.mono ?_
          rintro en w2 ⟨rfl, H2⟩
          clear CSx
          go_wp2_with fail
          go_roundw
          case rel => exact ⟨i + 1, k', C2, M2, by go_num, by omega, by omega, HYO, by omega, HTY, H2⟩
          case measure => simp [Go.RowKit.intOf]; omega
        · have d2 : ((E2 : Int) != 0) = true := by simp; omega
          have hq2 := hYe hE
          rw [if_pos hE] at hTY
          have HTY := Lib.hid hTY
          injection hq2 with q1 q2
          subst q1 q2
          clear hTT HX hTY hYe hY hhd hC2 hYo
          go_wp2_with fail
          refine CSx.out.mono ?_
          rintro en w2 ⟨rfl, H2⟩
          clear CSx
          go_wp2_with fail
          go_ret2
          exact ⟨by rw [HTY.out]; rfl, by rw [HTY.out]; exact H2⟩
      · have HF : Hid (T = (i, 0, C', M')) := Lib.hid (by
          rw [hTT.out]
          conv => lhs; unfold runF
          rw [if_pos hhd]
          simp)
        have HH := Lib.hid HX
        clear hTT HX hhd hC2
        go_wp2_with fail
        go_ret2
        exact ⟨by rw [HF.out]; rfl, by rw [HF.out]; exact HH.out⟩
end
end Go.Proofs.Ytjbphdjheklhbaa
