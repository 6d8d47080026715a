/-
  Layer 48: code: is it too great; the ops that lay it.
-/
import Derived.Test.YtjbphdjheklhbaaCr1
import Derived.Deep.RegionLaw
namespace Go.Proofs.Ytjbphdjheklhbaa
open Go.RowKit

def codeCells (bs pc : Nat) (sb sp sr : Value) : List Value := [.int .u64 bs, .int .u64 pc, sb, sp, sr]
def greatC (nb np nr : Nat) : Bool := decide (900 < nb) || decide (6 < np) || decide (20 < nr)
/-- Pages that are mapped. -/
def mapO (i : Nat) : OpS := ⟨0, 7, 0, 4096 * i, .slice none 0 0, []⟩
def proO (p : Int) (i : Nat) : OpS := ⟨2, p, 0, 4096 * i, .slice none 0 0, []⟩
/-- Bytes that are stored, the j-th 64 of them. -/
def stoO (bs g o c : Nat) (B : List UInt8) (j : Nat) : OpS := ⟨4, 0, 0, add64 bs (64 * j), .slice (some ⟨g, o + 64 * j, none⟩) (min B.length (64 * j + 64) - 64 * j) (c - 64 * j), (B.drop (64 * j)).take 64⟩

section
variable {e : Env} {w : World} {R : List HP}
set_option maxRecDepth 100000 in
theorem lawGreat (bs pc nb np nr : Nat) (a1 a2 a3 : Option Addr) (c1 c2 c3 : Nat) (h1 : nb ≤ 4611686018427387904) (h2 : np ≤ 4611686018427387904) (h3 : nr ≤ 4611686018427387904) (H : Holds e w R) :
    Calls Try.prog 31 #[.agg (codeCells bs pc (.slice a1 nb c1) (.slice a2 np c2) (.slice a3 nr c3)).toArray] w (Ret e (.bool (greatC nb np nr)) R) := by
  have H1 := (H.alloc (.cells (codeCells bs pc (.slice a1 nb c1) (.slice a2 np c2) (.slice a3 nr c3)).toArray 83)).drop
  have HH := Lib.hid H1
  clear H H1
  unfold codeCells at *
  go_enter Try.func31, Try.ntmps31
  go_wp2_with fail
  all_goals go_ret
  all_goals
    refine ⟨congrArg (fun b => Ending.returned (Value.bool b)) (?_ : _ = greatC nb np nr), HH.out⟩
    unfold greatC
    rw [Bool.eq_iff_iff]
    simp only [Bool.or_eq_true, decide_eq_true_eq]
    first | omega | exact ⟨fun _ => by omega, fun _ => trivial⟩
end
end Go.Proofs.Ytjbphdjheklhbaa
