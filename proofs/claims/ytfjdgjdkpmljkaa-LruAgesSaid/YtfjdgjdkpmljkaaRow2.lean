/-
  Parts of slices that are read; gunnyref02.Ints.
-/
import Derived.Test.YtfjdgjdkpmljkaaFlat
import Derived.BigQuiet
namespace Go.Proofs.Ytfjdgjdkpmljkaa
open Go.RowKit

theorem reads_take {w : World} {a : Addr} {size n c k : Nat} {xs : List Value} (h : Reads w (.slice (some a) n c) size n xs) (hk : k ≤ n) : Reads w (.slice (some a) k c) size k (xs.take (k * size)) := by
  obtain ⟨h1, h2⟩ := h
  refine ⟨by rw [List.length_take, h1]; exact Nat.min_eq_left (Nat.mul_le_mul_right _ hk), .inr ⟨a, c, rfl, ?_, fun j u hj => ?_⟩⟩
  · rcases h2 with ⟨h, rfl⟩ | ⟨a', c', h, h', _⟩
    · cases h
    · cases h; omega
  · rcases h2 with ⟨h, rfl⟩ | ⟨a', c', h, h', hr⟩
    · cases h
    · cases h; exact hr j u (take_get hj).1
theorem reads_drop {w : World} {g o size n c k : Nat} {xs : List Value} (h : Reads w (.slice (some ⟨g, o, none⟩) n c) size n xs) (hk : k ≤ n) : Reads w (.slice (some ⟨g, o + k * size, none⟩) (n - k) (c - k)) size (n - k) (xs.drop (k * size)) := by
  obtain ⟨h1, h2⟩ := h
  refine ⟨by rw [List.length_drop, h1, Nat.sub_mul], .inr ⟨⟨g, o + k * size, none⟩, c - k, rfl, ?_, fun j u hj => ?_⟩⟩
  · rcases h2 with ⟨h, rfl⟩ | ⟨a', c', h, h', _⟩
    · cases h
    · cases h; omega
  · rcases h2 with ⟨h, rfl⟩ | ⟨a', c', h, h', hr⟩
    · cases h
    · cases h
      rw [List.getElem?_drop] at hj
      have := hr _ u hj
      rw [Addr.add_at] at this ⊢
      rw [← this]
      congr 2
      omega
theorem reads_none' (w : World) (a : Addr) (size c : Nat) : Reads w (.slice (some a) 0 c) size 0 [] := ⟨by simp, .inr ⟨a, c, rfl, Nat.zero_le _, fun j u hj => by cases hj⟩⟩

section
variable {e : Env} {w : World} {R : List HP}

set_option maxHeartbeats 400000 in
theorem ints_same (xs : List Int) (v v' : Value) (hb : xs.length ≤ 4611686018427387904) (hr : Reads w v 1 xs.length (ints xs)) (hr' : Reads w v' 1 xs.length (ints xs)) : Calls Try.prog 45 #[v, v'] w (Quiet w (.bool true)) := by
  obtain ⟨ad, c, rfl⟩ := hr.shape
  obtain ⟨ad', c', rfl⟩ := hr'.shape
  go_enter Try.func45, Try.ntmps45
  go_wp2
  go_loopw [5] (fun i wr => ∃ k : Nat, k ≤ xs.length ∧ i = .int .i64 (k : Nat) ∧ ∃ m, wr = w.drewN m) (fun i _ => xs.length - (intOf i).toNat)
  case atStart => exact ⟨0, by omega, rfl, 0, rfl⟩
  case round =>
    obtain ⟨k, hk, rfl, m, rfl⟩ := hrel
    by_cases hlt : k < xs.length
    · obtain ⟨g, o, rfl, h1⟩ := hr.at (by omega)
      obtain ⟨g', o', rfl, h2⟩ := hr'.at (by omega)
      have c1 := h1 k _ (ints_get (List.getElem?_eq_getElem hlt))
      have c2 := h2 k _ (ints_get (List.getElem?_eq_getElem hlt))
      clear h1 h2
      go_wp2
      go_quiet (fail)
      go_wp2
      go_roundw
      case rel => exact ⟨k + 1, by omega, by go_num, _, rfl⟩
      case measure => simp [intOf]; omega
    · go_wp2
      go_ret
      exact ⟨rfl, _, rfl⟩

end
theorem row_shape {v : Value} {T : TypeId} {size k : Nat} {us : List Value} {e : Env} {w : World} {R : List HP} (H : Holds e w (row v T size k us :: R)) : ∃ a c, v = .slice a k c := (row.reads H).shape
theorem row_len {e : Env} {w : World} {R : List HP} {v : Value} {T : TypeId} {size n m : Nat} {us : List Value} (H : Holds e w (row v T size n us :: R)) (h : n = m) : Holds e w (row v T size m us :: R) := h ▸ H
theorem ints_rows {e : Env} {w : World} {R : List HP} {v v' : Value} {xs : List Int} (hb : xs.length ≤ 512) (H : Holds e w (row v 3 1 xs.length (ints xs) :: row v' 3 1 xs.length (ints xs) :: R)) :
    Calls Try.prog 45 #[v, v'] w (Ret e (.bool true) (row v 3 1 xs.length (ints xs) :: row v' 3 1 xs.length (ints xs) :: R)) ∧
    Calls Try.prog 45 #[v', v] w (Ret e (.bool true) (row v 3 1 xs.length (ints xs) :: row v' 3 1 xs.length (ints xs) :: R)) :=
  ⟨retQ (ints_same xs v v' (by omega) (row.reads H) (row.reads H.drop)) H, retQ (ints_same xs v' v (by omega) (row.reads H.drop) (row.reads H)) H⟩


end Go.Proofs.Ytfjdgjdkpmljkaa
