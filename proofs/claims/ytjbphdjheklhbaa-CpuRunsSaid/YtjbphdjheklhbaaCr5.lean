/-
  Package va: a page's address.
-/
import Derived.Test.YtjbphdjheklhbaaCr4
namespace Go.Proofs.Ytjbphdjheklhbaa
open Go.RowKit

section
variable {e : Env} {w : World} {R : List HP}
set_option maxRecDepth 100000 in
theorem vaAt (p : Nat) (hp : p < 68719476736) : Calls Try.prog 59 #[.int .i64 p] w (Quiet w (.int .u64 (upA (4096 * p)))) := by
  obtain ⟨a, ha⟩ : ∃ a, 4096 * p = a := ⟨_, rfl⟩
  have ha64 : a < 18446744073709551616 := by omega
  have c := fun w => vaSpread (w := w) a ha64
  rw [ha]
  have i1 : (p : Int) * 4096 = (a : Int) := by omega
  have hw : IntKind.u64.wrap (a : Int) = a := by rw [IntKind.wrap_u64]; omega
  have hp2 : decide ((68719476736 : Int) ≤ (p : Int)) = false := decide_eq_false (by omega)
  clear ha
  go_enter Try.func59, Try.ntmps59
  go_wp2_with fail
  refine (c _).mono ?_
  rintro e w1 ⟨rfl, n1, rfl⟩
  go_wp2_with fail
  go_ret
  exact ⟨rfl, _, rfl⟩
end
end Go.Proofs.Ytjbphdjheklhbaa
