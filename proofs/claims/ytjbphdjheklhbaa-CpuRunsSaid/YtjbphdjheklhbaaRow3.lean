/-
  Parts of slices that are read.
-/
import Derived.Test.YtjbphdjheklhbaaFlat
import Derived.BigQuiet
namespace Go.Proofs.Ytjbphdjheklhbaa
open Go.RowKit

theorem reads_take {w : World} {a : Addr} {size n c k : Nat} {xs : List Value} (h : Reads w (.slice (some a) n c) size n xs) (hk : k ≤ n) : Reads w (.slice (some a) k c) size k (xs.take (k * size)) := by
  obtain ⟨h1, h2⟩ := h
  refine ⟨by rw [List.length_take, h1]; exact Nat.min_eq_left (Nat.mul_le_mul_right _ hk), .inr ⟨a, c, rfl, ?_, fun j u hj => ?_⟩⟩
  · rcases h2 with ⟨h, rfl⟩ | ⟨a', c', h, h', _⟩
    · cases h
    · cases h; omega
  · rcases h2 with ⟨h, rfl⟩ | ⟨a', c', h, h', hr⟩
    · cases h
    · cases h; exact hr j u (take_get hj).1
theorem reads_drop {w : World} {g o size n c k : Nat} {xs : List Value} (h : Reads w (.slice (some ⟨g, o, none⟩) n c) size n xs) (hk : k ≤ n) : Reads w (.slice (some ⟨g, o + k * size, none⟩) (n - k) (c - k)) size (n - k) (xs.drop (k * size)) := by
  obtain ⟨h1, h2⟩ := h
  refine ⟨by rw [List.length_drop, h1, Nat.sub_mul], .inr ⟨⟨g, o + k * size, none⟩, c - k, rfl, ?_, fun j u hj => ?_⟩⟩
  · rcases h2 with ⟨h, rfl⟩ | ⟨a', c', h, h', _⟩
    · cases h
    · cases h; omega
  · rcases h2 with ⟨h, rfl⟩ | ⟨a', c', h, h', hr⟩
    · cases h
    · cases h
      rw [List.getElem?_drop] at hj
      have := hr _ u hj
      rw [Addr.add_at] at this ⊢
      rw [← this]
      congr 2
      omega
theorem reads_none' (w : World) (a : Addr) (size c : Nat) : Reads w (.slice (some a) 0 c) size 0 [] := ⟨by simp, .inr ⟨a, c, rfl, Nat.zero_le _, fun j u hj => by cases hj⟩⟩

theorem row_shape {v : Value} {T : TypeId} {size k : Nat} {us : List Value} {e : Env} {w : World} {R : List HP} (H : Holds e w (row v T size k us :: R)) : ∃ a c, v = .slice a k c := (row.reads H).shape
theorem row_len {e : Env} {w : World} {R : List HP} {v : Value} {T : TypeId} {size n m : Nat} {us : List Value} (H : Holds e w (row v T size n us :: R)) (h : n = m) : Holds e w (row v T size m us :: R) := h ▸ H

end Go.Proofs.Ytjbphdjheklhbaa
