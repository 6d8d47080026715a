/-
  Contracts of the package limit.
-/
import Derived.Test.YtfjdgjdkpmljkaaSL
namespace Go.Proofs.Ytfjdgjdkpmljkaa
open Go.RowKit

structure LimS where
  most : Int
  accept : Int
  closed : Bool

def LimS.obj (s : LimS) : Obj := .cells #[.int .i64 s.most, .int .i64 s.accept, .bool s.closed] 103 (0, 0)
def LimS.ok (s : LimS) : Prop := 4 ≤ s.most ∧ s.most ≤ 96 ∧ 1 ≤ s.accept ∧ s.accept ≤ 100
def LimS.low (s : LimS) : Int := s.most * s.accept / 100
def LimS.over (s : LimS) (n : Int) : Int := if n < s.low then 0 else n - s.low

theorem lim_mul {m a : Int} (h1 : 4 ≤ m) (h2 : m ≤ 96) (h3 : 1 ≤ a) (h4 : a ≤ 100) : 4 ≤ m * a ∧ m * a ≤ 9600 := by
  constructor
  · calc (4 : Int) = 4 * 1 := rfl
      _ ≤ m * a := Int.mul_le_mul h1 h3 (by omega) (by omega)
  · calc m * a ≤ 96 * 100 := Int.mul_le_mul h2 h4 (by omega) (by omega)
      _ = 9600 := rfl

theorem LimS.low_bd {s : LimS} (h : s.ok) : 0 ≤ s.low ∧ s.low ≤ 96 ∧ s.low ≤ s.most := by
  obtain ⟨h1, h2, h3, h4⟩ := h
  have := lim_mul h1 h2 h3 h4
  unfold LimS.low
  refine ⟨by omega, by omega, ?_⟩
  have : s.most * s.accept ≤ s.most * 100 := Int.mul_le_mul_of_nonneg_left h4 (by omega)
  omega

section
variable {w : World}

set_option maxHeartbeats 400000 in
theorem may_yes (n : Int) (h : 4 ≤ n ∧ n ≤ 96) : Calls Try.prog 67 #[.int .i64 n] w fun e w' => e = .returned (.bool true) ∧ w = w' := by
  obtain ⟨h1, h2⟩ := h
  go_enter Try.func67, Try.ntmps67
  go_wp2
  go_ret
  exact ⟨rfl, rfl⟩

set_option maxHeartbeats 400000 in
theorem may_no (n : Int) (h : ¬ (4 ≤ n ∧ n ≤ 96)) : Calls Try.prog 67 #[.int .i64 n] w fun e w' => e = .returned (.bool false) ∧ w = w' := by
  by_cases h1 : 4 ≤ n
  · have h2 : ¬ n ≤ 96 := by omega
    clear h
    go_enter Try.func67, Try.ntmps67
    go_wp2
    go_ret
    exact ⟨rfl, rfl⟩
  · clear h
    go_enter Try.func67, Try.ntmps67
    go_wp2
    go_ret
    exact ⟨rfl, rfl⟩

set_option maxHeartbeats 400000 in
theorem limNew_ok (m a : Int) (h : 4 ≤ m ∧ m ≤ 96 ∧ 1 ≤ a ∧ a ≤ 100) :
    Calls Try.prog 24 #[.int .i64 m, .int .i64 a] w fun e w' => e = .returned (.tuple #[.pointer (some ⟨w.heap.size, 0, none⟩), .int .i64 0]) ∧ w.alloc (LimS.obj ⟨m, a, false⟩) = w' := by
  obtain ⟨h1, h2, h3, h4⟩ := h
  go_enter Try.func24, Try.ntmps24
  go_wp2_with ((go_at_call 67); refine (may_yes _ ⟨h1, h2⟩).mono ?_; rintro e w' ⟨rfl, rfl⟩)
  go_ret2
  exact ⟨rfl, rfl⟩

set_option maxHeartbeats 400000 in
theorem limNew_err (m a : Int) (h : ¬ (4 ≤ m ∧ m ≤ 96 ∧ 1 ≤ a ∧ a ≤ 100)) :
    Calls Try.prog 24 #[.int .i64 m, .int .i64 a] w fun e w' => e = .returned (.tuple #[.pointer none, .int .i64 1]) ∧ w = w' := by
  by_cases h1 : 4 ≤ m ∧ m ≤ 96
  · by_cases h3 : 1 ≤ a
    · have h4 : ¬ a ≤ 100 := by omega
      have h4' : 100 < a := by omega
      clear h
      go_enter Try.func24, Try.ntmps24
      go_wp2_with ((go_at_call 67); refine (may_yes _ h1).mono ?_; rintro e w' ⟨rfl, rfl⟩)
      go_ret2
      exact ⟨rfl, rfl⟩
    · have h3' : a < 1 := by omega
      clear h
      go_enter Try.func24, Try.ntmps24
      go_wp2_with ((go_at_call 67); refine (may_yes _ h1).mono ?_; rintro e w' ⟨rfl, rfl⟩)
      go_ret2
      exact ⟨rfl, rfl⟩
  · clear h
    have H := Lib.hid h1; clear h1
    go_enter Try.func24, Try.ntmps24
    go_wp2_with ((go_at_call 67); refine (may_no _ H.out).mono ?_; rintro e w' ⟨rfl, rfl⟩)
    go_ret2
    exact ⟨rfl, rfl⟩
end

section
variable {e : Env} {w : World} {b : Nat} {s : LimS} {R : List HP}

set_option maxHeartbeats 400000 in
theorem low_ok (H : Holds e w (pts b s.obj :: R)) (hs : s.ok) :
    Calls Try.prog 25 #[.pointer (some ⟨b, 0, none⟩)] w (Quiet w (.int .i64 s.low)) := by
  have hm := lim_mul hs.1 hs.2.1 hs.2.2.1 hs.2.2.2
  have hb := LimS.low_bd hs
  have h0 : w.cell? ⟨b, 0, none⟩ = some (.int .i64 s.most) := by unfold LimS.obj at H; exact H.cell rfl
  have h1 : w.cell? ⟨b, 1, none⟩ = some (.int .i64 s.accept) := by unfold LimS.obj at H; exact H.cell rfl
  have hx : IntKind.i64.wrap (s.most * s.accept) = s.most * s.accept := IntWalk.i64_in _ (by omega)
  have hy : (s.most * s.accept).tdiv 100 = s.low := Int.tdiv_eq_ediv_of_nonneg (by omega)
  have hz : s.most * s.accept / 100 = s.low := rfl
  have hw : wrap64 s.low = s.low := by unfold wrap64; omega
  clear hs hm hb
  go_enter Try.func25, Try.ntmps25
  go_wp2
  go_quiet (fail)
  go_wp2
  go_ret
  exact ⟨by simp; exact hw, _, rfl⟩

set_option maxHeartbeats 400000 in
theorem low_nil : Calls Try.prog 25 #[.pointer none] w (Quiet w (.int .i64 0)) := by
  go_enter Try.func25, Try.ntmps25
  go_wp2
  go_ret
  exact ⟨rfl, 0, rfl⟩

set_option maxHeartbeats 400000 in
theorem most_ok (H : Holds e w (pts b s.obj :: R)) :
    Calls Try.prog 26 #[.pointer (some ⟨b, 0, none⟩)] w (Quiet w (.int .i64 s.most)) := by
  have h0 : w.cell? ⟨b, 0, none⟩ = some (.int .i64 s.most) := by unfold LimS.obj at H; exact H.cell rfl
  go_enter Try.func26, Try.ntmps26
  go_wp2
  go_ret
  exact ⟨rfl, 0, rfl⟩

set_option maxHeartbeats 400000 in
theorem most_nil : Calls Try.prog 26 #[.pointer none] w (Quiet w (.int .i64 0)) := by
  go_enter Try.func26, Try.ntmps26
  go_wp2
  go_ret
  exact ⟨rfl, 0, rfl⟩

set_option maxHeartbeats 400000 in
theorem limSet_nil (n : Int) : Calls Try.prog 37 #[.pointer none, .int .i64 n] w (Quiet w (.bool false)) := by
  go_enter Try.func37, Try.ntmps37
  go_wp2
  go_ret
  exact ⟨rfl, 0, rfl⟩

set_option maxHeartbeats 400000 in
theorem limSet_no (n : Int) (h : ¬ (4 ≤ n ∧ n ≤ 96)) : Calls Try.prog 37 #[.pointer (some ⟨b, 0, none⟩), .int .i64 n] w (Quiet w (.bool false)) := by
  have H := Lib.hid h; clear h
  go_enter Try.func37, Try.ntmps37
  go_wp2_with ((go_at_call 67); refine (may_no _ H.out).mono ?_; rintro e w' ⟨rfl, rfl⟩)
  go_ret
  exact ⟨rfl, 0, rfl⟩

set_option maxHeartbeats 400000 in
theorem limSet_yes (n : Int) (h : 4 ≤ n ∧ n ≤ 96) (H : Holds e w (pts b s.obj :: R)) :
    Calls Try.prog 37 #[.pointer (some ⟨b, 0, none⟩), .int .i64 n] w (Ret e (.bool true) (pts b { s with most := n }.obj :: R)) := by
  have h0 : w.cell? ⟨b, 0, none⟩ = some (.int .i64 s.most) := by unfold LimS.obj at H; exact H.cell rfl
  have hf := H.frozen
  have K := Lib.hid h; clear h
  go_enter Try.func37, Try.ntmps37
  go_wp2_with ((go_at_call 67); refine (may_yes _ K.out).mono ?_; rintro e w' ⟨rfl, rfl⟩)
  go_ret
  exact ⟨rfl, H.set 0 _⟩

set_option maxHeartbeats 400000 in
theorem close_nil : Calls Try.prog 27 #[.pointer none] w (Quiet w (.tuple #[])) := by
  go_enter Try.func27, Try.ntmps27
  go_wp2
  go_end0
  exact ⟨rfl, 0, rfl⟩

set_option maxHeartbeats 400000 in
theorem close_ok (H : Holds e w (pts b s.obj :: R)) :
    Calls Try.prog 27 #[.pointer (some ⟨b, 0, none⟩)] w (Ret e (.tuple #[]) (pts b { s with closed := true }.obj :: R)) := by
  have h0 : w.cell? ⟨b, 2, none⟩ = some (.bool s.closed) := by unfold LimS.obj at H; exact H.cell rfl
  have hf := H.frozen
  go_enter Try.func27, Try.ntmps27
  go_wp2
  go_end0
  exact ⟨rfl, H.set 2 _⟩

set_option maxHeartbeats 400000 in
theorem over_nil (n : Int) : Calls Try.prog 29 #[.pointer none, .int .i64 n] w (Quiet w (.int .i64 0)) := by
  go_enter Try.func29, Try.ntmps29
  go_wp2
  go_ret
  exact ⟨rfl, 0, rfl⟩

set_option maxHeartbeats 400000 in
theorem over_ok (n : Int) (h1 : -9223372036854775808 ≤ n) (h2 : n ≤ 9223372036854775807) (H : Holds e w (pts b s.obj :: R)) (hs : s.ok) :
    Calls Try.prog 29 #[.pointer (some ⟨b, 0, none⟩), .int .i64 n] w (Quiet w (.int .i64 (s.over n))) := by
  have hb := LimS.low_bd hs
  by_cases hn : n < s.low
  · have hv : s.over n = 0 := by unfold LimS.over; rw [if_pos hn]
    have HV := Lib.hid hv; clear hv
    go_enter Try.func29, Try.ntmps29
    go_wp2_with (go_at_call 25; refine (low_ok H hs).mono ?_; rintro e w' ⟨rfl, k, rfl⟩)
    go_ret
    exact ⟨by rw [HV.out]; rfl, _, rfl⟩
  · have hv : s.over n = n - s.low := by unfold LimS.over; rw [if_neg hn]
    have HV := Lib.hid hv; clear hv
    go_enter Try.func29, Try.ntmps29
    go_wp2_with (go_at_call 25; refine (low_ok (by first | exact H | exact H.drewN _) hs).mono ?_; rintro e w' ⟨rfl, k, rfl⟩)
    go_ret
    exact ⟨by rw [HV.out]; rfl, _, rfl⟩

end
end Go.Proofs.Ytfjdgjdkpmljkaa
