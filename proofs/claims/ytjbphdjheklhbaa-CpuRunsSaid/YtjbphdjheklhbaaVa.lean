/-
  Package va: canonical addresses, pages, offsets; pte.May.
-/
import Derived.Test.YtjbphdjheklhbaaNum
import Derived.Laws.BitsAllLaws
import Derived.Laws.Bits64
namespace Go.Proofs.Ytjbphdjheklhbaa
open Go.RowKit

def canon (a : Nat) : Bool := decide (a < 140737488355328) || decide (18446603336221196288 ≤ a)
def pgOf (a : Nat) : Nat := a / 4096 % 68719476736
def offOf (a : Nat) : Nat := a % 4096
theorem pgOf_lt (a : Nat) : pgOf a < 68719476736 := Nat.mod_lt _ (by decide)
theorem offOf_lt (a : Nat) : offOf a < 4096 := Nat.mod_lt _ (by decide)
/-- The address with the lowest 48 bits of a. -/
def upA (a : Nat) : Nat := if a % 281474976710656 < 140737488355328 then a % 281474976710656 else 18446462598732840960 + a % 281474976710656
theorem upA_eq (a : Nat) (h : a < 18446744073709551616) : decide (upA a = a) = canon a := by
  unfold upA canon
  rw [Bool.eq_iff_iff]
  simp only [Bool.or_eq_true, decide_eq_true_eq]
  split <;> omega

theorem u64_and_mod (a k m : Nat) (ha : a < 18446744073709551616) (hm : m = 2 ^ k - 1) (hk : k ≤ 64) : bits BinOp.and IntKind.u64 (a : Int) (m : Int) = ((a % 2 ^ k : Nat) : Int) := by
  have h2 : 2 ^ k ≤ 2 ^ 64 := Nat.pow_le_pow_right (by omega) hk
  have h3 : 0 < 2 ^ k := Nat.two_pow_pos k
  rw [u64_and_nat _ _ ha (by omega), hm, Nat.and_two_pow_sub_one_eq_mod]

section
variable {w : World}
theorem mask_48 : Calls Try.prog 92 #[.int .i64 0, .int .i64 48] w (Quiet w (.int .u64 281474976710655)) := by
  go_enter Try.func92, Try.ntmps92
  go_wp2_with fail
  go_ret
  exact ⟨rfl, 0, rfl⟩
theorem mask_47 : Calls Try.prog 92 #[.int .i64 47, .int .i64 1] w (Quiet w (.int .u64 140737488355328)) := by
  go_enter Try.func92, Try.ntmps92
  go_wp2_with fail
  go_ret
  exact ⟨rfl, 0, rfl⟩
theorem mask_12 : Calls Try.prog 92 #[.int .i64 0, .int .i64 12] w (Quiet w (.int .u64 4095)) := by
  go_enter Try.func92, Try.ntmps92
  go_wp2_with fail
  go_ret
  exact ⟨rfl, 0, rfl⟩
theorem mask_pg : Calls Try.prog 92 #[.int .i64 12, .int .i64 36] w (Quiet w (.int .u64 281474976706560)) := by
  go_enter Try.func92, Try.ntmps92
  go_wp2_with fail
  go_ret
  exact ⟨rfl, 0, rfl⟩

theorem and_pg (a : Nat) (ha : a < 18446744073709551616) : bits BinOp.and IntKind.u64 (a : Int) 281474976706560 / 2 ^ 12 = ((pgOf a : Nat) : Int) := by
  have h := u64_and_nat a 281474976706560 ha (by decide)
  have e : ((a &&& 281474976706560 : Nat)) / 2 ^ 12 = pgOf a := by
    rw [← Nat.shiftRight_eq_div_pow, Nat.shiftRight_and_distrib, show 281474976706560 >>> 12 = 2 ^ 36 - 1 by rfl, Nat.and_two_pow_sub_one_eq_mod, Nat.shiftRight_eq_div_pow]
    rfl
  have h2 : bits BinOp.and IntKind.u64 (a : Int) 281474976706560 = ((a &&& 281474976706560 : Nat) : Int) := h
  rw [h2, ← e]
  simp
theorem and_47 (a : Nat) (ha : a < 18446744073709551616) : bits BinOp.and IntKind.u64 (a : Int) 140737488355328 / 2 ^ 47 = ((a / 2 ^ 47 % 2 : Nat) : Int) := by
  have h := u64_and_nat a 140737488355328 ha (by decide)
  have e : ((a &&& 140737488355328 : Nat)) / 2 ^ 47 = a / 2 ^ 47 % 2 := by
    rw [← Nat.shiftRight_eq_div_pow, Nat.shiftRight_and_distrib, show 140737488355328 >>> 47 = 2 ^ 1 - 1 by rfl, Nat.and_two_pow_sub_one_eq_mod, Nat.shiftRight_eq_div_pow]
  have h2 : bits BinOp.and IntKind.u64 (a : Int) 140737488355328 = ((a &&& 140737488355328 : Nat) : Int) := h
  rw [h2, ← e]
  simp
set_option maxRecDepth 100000 in
theorem cut_pg (a : Nat) (ha : a < 18446744073709551616) : Calls Try.prog 93 #[.int .u64 a, .int .i64 12, .int .i64 36] w (Quiet w (.int .u64 (pgOf a))) := by
  have e := and_pg a ha
  have hm := fun w => mask_pg (w := w)
  go_enter Try.func93, Try.ntmps93
  go_wp2_with fail
  refine (hm _).mono ?_
  rintro e w1 ⟨rfl, n1, rfl⟩
  go_wp2_with fail
  go_ret
  exact ⟨by rw [← e]; rfl, _, rfl⟩
set_option maxRecDepth 100000 in
theorem cut_47 (a : Nat) (ha : a < 18446744073709551616) : Calls Try.prog 93 #[.int .u64 a, .int .i64 47, .int .i64 1] w (Quiet w (.int .u64 ((a / 2 ^ 47 % 2 : Nat) : Int))) := by
  have e := and_47 a ha
  have hm := fun w => mask_47 (w := w)
  go_enter Try.func93, Try.ntmps93
  go_wp2_with fail
  refine (hm _).mono ?_
  rintro e w1 ⟨rfl, n1, rfl⟩
  go_wp2_with fail
  go_ret
  exact ⟨by rw [← e]; rfl, _, rfl⟩
set_option maxRecDepth 100000 in
theorem cut_off (a : Nat) (ha : a < 18446744073709551616) : Calls Try.prog 93 #[.int .u64 a, .int .i64 0, .int .i64 12] w (Quiet w (.int .u64 (offOf a))) := by
  have e := u64_and_mod a 12 4095 ha (by decide) (by decide)
  have hm := fun w => mask_12 (w := w)
  go_enter Try.func93, Try.ntmps93
  go_wp2_with fail
  refine (hm _).mono ?_
  rintro e w1 ⟨rfl, n1, rfl⟩
  go_wp2_with fail
  go_ret
  exact ⟨by unfold offOf; rw [show (4096 : Nat) = 2 ^ 12 by rfl, ← e]; simp, _, rfl⟩
theorem numBit_47 (a : Nat) (ha : a < 18446744073709551616) : Calls Try.prog 91 #[.int .u64 a, .int .i64 47] w (Quiet w (.bool (decide (140737488355328 ≤ a % 281474976710656)))) := by
  have hm := fun w => cut_47 (w := w) a ha
  have e : (((a / 2 ^ 47 % 2 : Nat) : Int) == 1) = decide (140737488355328 ≤ a % 281474976710656) := by
    rw [Bool.eq_iff_iff]; simp only [beq_iff_eq, decide_eq_true_eq]; omega
  generalize ((a / 2 ^ 47 % 2 : Nat) : Int) = x at *
  go_enter Try.func91, Try.ntmps91
  go_wp2_with fail
  refine (hm _).mono ?_
  rintro e w1 ⟨rfl, n1, rfl⟩
  go_wp2_with fail
  go_ret
  exact ⟨by rw [← e]; rfl, _, rfl⟩
set_option maxRecDepth 100000 in
theorem vaSpread (a : Nat) (ha : a < 18446744073709551616) : Calls Try.prog 78 #[.int .u64 a] w (Quiet w (.int .u64 (upA a))) := by
  have hb := fun w => numBit_47 (w := w) a ha
  have hm := fun w => mask_48 (w := w)
  by_cases h : 140737488355328 ≤ a % 281474976710656
  · rw [decide_eq_true h] at hb
    have e1 : upA a = 18446462598732840960 + a % 281474976710656 := by unfold upA; rw [if_neg (by omega)]
    have e2 : bits BinOp.or IntKind.u64 (a : Int) 18446462598732840960 = ((18446462598732840960 + a % 281474976710656 : Nat) : Int) := by
      have h2 := u64_or_nat a 18446462598732840960 ha (by decide)
      have e3 : (a ||| 18446462598732840960 : Nat) = 18446462598732840960 + a % 281474976710656 := by
        apply Nat.eq_of_testBit_eq
        intro i
        rw [Nat.testBit_or]
        by_cases hi : i < 48
        · have q1 : Nat.testBit 18446462598732840960 i = false := by
            rw [show 18446462598732840960 = 65535 * 2 ^ 48 by rfl, Nat.testBit_mul_two_pow]
            simp; omega
          have q2 : (18446462598732840960 + a % 281474976710656).testBit i = (a % 2 ^ 48).testBit i := by
            rw [show 18446462598732840960 = 65535 * 2 ^ 48 by rfl, Nat.mul_comm, Nat.testBit_two_pow_mul_add _ (by omega), if_pos hi]
          rw [q1, q2, Nat.testBit_mod_two_pow]
          simp [hi]
        · have q2 : (18446462598732840960 + a % 281474976710656).testBit i = Nat.testBit 65535 (i - 48) := by
            rw [show 18446462598732840960 = 65535 * 2 ^ 48 by rfl, Nat.mul_comm, Nat.testBit_two_pow_mul_add _ (by omega), if_neg hi]
          have q1 : Nat.testBit 18446462598732840960 i = Nat.testBit 65535 (i - 48) := by
            rw [show 18446462598732840960 = 65535 * 2 ^ 48 by rfl, Nat.testBit_mul_two_pow]
            simp; omega
          rw [q1, q2]
          by_cases hi2 : i < 64
          · have : Nat.testBit 65535 (i - 48) = true := by
              rw [show 65535 = 2 ^ 16 - 1 by rfl, Nat.testBit_two_pow_sub_one]
              simp; omega
            rw [this]; simp
          · have : a.testBit i = false := Nat.testBit_lt_two_pow (Nat.lt_of_lt_of_le ha (by
              calc 18446744073709551616 = 2 ^ 64 := rfl
                _ ≤ 2 ^ i := Nat.pow_le_pow_right (by omega) (by omega)))
            rw [this]; simp
      rw [← e3, ← h2]; rfl
    rw [e1]
    have E2 := Lib.hid e2
    clear e1 e2 h
    go_enter Try.func78, Try.ntmps78
    go_wp2_with fail
    refine (hb _).mono ?_
    rintro e w1 ⟨rfl, n1, rfl⟩
    go_wp2_with fail
    refine (hm _).mono ?_
    rintro e w1 ⟨rfl, n2, rfl⟩
    go_wp2_with fail
    go_ret
    refine ⟨?_, _, rfl⟩
    show Ending.returned (.int .u64 (bits BinOp.or IntKind.u64 (a : Int) (bits BinOp.xor IntKind.u64 IntKind.u64.max 281474976710655))) = _
    rw [show bits BinOp.xor IntKind.u64 IntKind.u64.max 281474976710655 = 18446462598732840960 by rfl, E2.out]
    simp
  · rw [decide_eq_false h] at hb
    have e1 : upA a = a % 281474976710656 := by unfold upA; rw [if_pos (by omega)]
    have E2 := Lib.hid (u64_and_mod a 48 281474976710655 ha (by decide) (by decide))
    rw [e1]
    clear e1 h
    go_enter Try.func78, Try.ntmps78
    go_wp2_with fail
    refine (hb _).mono ?_
    rintro e w1 ⟨rfl, n1, rfl⟩
    go_wp2_with fail
    refine (hm _).mono ?_
    rintro e w1 ⟨rfl, n2, rfl⟩
    go_wp2_with fail
    go_ret
    exact ⟨by rw [show (281474976710656 : Nat) = 2 ^ 48 by rfl, ← E2.out]; rfl, _, rfl⟩
theorem vaCanon (a : Nat) (ha : a < 18446744073709551616) : Calls Try.prog 94 #[.int .u64 a] w (Quiet w (.bool (canon a))) := by
  have hm := fun w => vaSpread (w := w) a ha
  have e : ((upA a : Int) == (a : Int)) = canon a := by
    rw [← upA_eq a ha, Bool.eq_iff_iff]; simp only [beq_iff_eq, decide_eq_true_eq]; omega
  generalize upA a = x at *
  go_enter Try.func94, Try.ntmps94
  go_wp2_with fail
  refine (hm _).mono ?_
  rintro e w1 ⟨rfl, n1, rfl⟩
  go_wp2_with fail
  go_ret
  exact ⟨by rw [← e]; rfl, _, rfl⟩
theorem vaPage (a : Nat) (ha : a < 18446744073709551616) : Calls Try.prog 79 #[.int .u64 a] w (Quiet w (.int .i64 (pgOf a))) := by
  have hm := fun w => cut_pg (w := w) a ha
  have hb := pgOf_lt a
  generalize pgOf a = x at *
  go_enter Try.func79, Try.ntmps79
  go_wp2_with fail
  refine (hm _).mono ?_
  rintro e w1 ⟨rfl, n1, rfl⟩
  go_wp2_with fail
  go_ret
  exact ⟨rfl, _, rfl⟩
theorem vaOffset (a : Nat) (ha : a < 18446744073709551616) : Calls Try.prog 95 #[.int .u64 a] w (Quiet w (.int .i64 (offOf a))) := by
  have hm := fun w => cut_off (w := w) a ha
  have hb := offOf_lt a
  generalize offOf a = x at *
  go_enter Try.func95, Try.ntmps95
  go_wp2_with fail
  refine (hm _).mono ?_
  rintro e w1 ⟨rfl, n1, rfl⟩
  go_wp2_with fail
  go_ret
  exact ⟨rfl, _, rfl⟩

def mayP (p : Int) : Bool := p == 1 || p == 3 || p == 4 || p == 5 || p == 7
theorem mayP_cases (p : Int) : (p = 1 ∧ mayP p = true) ∨ (p = 3 ∧ mayP p = true) ∨ (p = 4 ∧ mayP p = true) ∨ (p = 5 ∧ mayP p = true) ∨ (p = 7 ∧ mayP p = true) ∨ (p ≠ 1 ∧ p ≠ 3 ∧ p ≠ 4 ∧ p ≠ 5 ∧ p ≠ 7 ∧ mayP p = false) := by
  by_cases h1 : p = 1
  · subst h1; decide
  by_cases h3 : p = 3
  · subst h3; decide
  by_cases h4 : p = 4
  · subst h4; decide
  by_cases h5 : p = 5
  · subst h5; decide
  by_cases h7 : p = 7
  · subst h7; decide
  · exact .inr (.inr (.inr (.inr (.inr ⟨h1, h3, h4, h5, h7, by simp [mayP, h1, h3, h4, h5, h7]⟩))))
theorem mayP_bd {p : Int} (h : mayP p = true) : 0 ≤ p ∧ p ≤ 7 := by
  rcases mayP_cases p with ⟨rfl, _⟩ | ⟨rfl, _⟩ | ⟨rfl, _⟩ | ⟨rfl, _⟩ | ⟨rfl, _⟩ | ⟨_, _, _, _, _, h'⟩
  case inr.inr.inr.inr.inr => rw [h] at h'; cases h'
  all_goals omega

set_option maxHeartbeats 1000000 in
theorem pteMay (p : Int) : Calls Try.prog 82 #[.int .i64 p] w (Quiet w (.bool (mayP p))) := by
  rcases mayP_cases p with ⟨rfl, h⟩ | ⟨rfl, h⟩ | ⟨rfl, h⟩ | ⟨rfl, h⟩ | ⟨rfl, h⟩ | ⟨h1, h3, h4, h5, h7, h⟩
  case inr.inr.inr.inr.inr =>
    rw [h]
    rcases (by omega : p < 1 ∨ (1 ≤ p ∧ 7 < p) ∨ p = 2 ∨ p = 6) with g | ⟨g, g2⟩ | rfl | rfl
    all_goals
      clear h
      go_enter Try.func82, Try.ntmps82
      go_wp2
      try go_bits
      go_ret
      exact ⟨by first | rfl | decide, 0, rfl⟩
  all_goals
    rw [h]
    clear h
    go_enter Try.func82, Try.ntmps82
    go_wp2
    try go_bits
    go_ret
    exact ⟨by first | rfl | decide, 0, rfl⟩
end
end Go.Proofs.Ytjbphdjheklhbaa
