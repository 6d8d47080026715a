/-
  Layer 47: the reference's May and Alloc.
-/
import Derived.Test.YtjbphdjheklhbaaHo1
import Derived.Deep.RegionLaw
namespace Go.Proofs.Ytjbphdjheklhbaa
open Go.RowKit

def fitsR (n : Int) (b : BlkS) : Bool := !b.used && decide (n ≤ (b.size : Int) - 8)
/-- How many bytes are taken for so many. -/
def szOf (n : Int) : Nat := if n ≤ 8 then 16 else up16 (n.toNat + 8)
theorem szOf_bd {n : Int} (h : n ≤ 65528) : 16 ≤ szOf n ∧ szOf n ≤ 65536 ∧ szOf n % 16 = 0 ∧ n ≤ (szOf n : Int) - 8 ∧ (szOf n = 16 ∨ (szOf n : Int) - 16 - 8 < n) := by
  unfold szOf
  split
  · omega
  · unfold up16; omega
theorem szOf_up {n : Nat} (h : 1 ≤ n) : szOf n = up16 (n + 8) := by
  unfold szOf up16
  split <;> omega
def takeR (l : List BlkS) (i : Nat) (b : BlkS) (need : Nat) : List BlkS := l.take i ++ (⟨b.o, need, true⟩ :: (rest b need ++ l.drop (i + 1)))
theorem fits_R {n : Nat} (h : 1 ≤ n) {b : BlkS} (hb : b.size % 16 = 0) : fits (up16 (n + 8)) b = fitsR n b := by
  unfold fits fitsR
  congr 1
  rw [Bool.eq_iff_iff]
  simp only [decide_eq_true_eq]
  unfold up16
  omega
theorem allocL_R {l : List BlkS} {need i : Nat} {b : BlkS} (hi : l[i]? = some b) (h0 : ∀ (j : Nat) y, j < i → l[j]? = some y → fits need y = false) (hf : fits need b = true) : allocL l need = takeR l i b need := by
  induction l generalizing i with
  | nil => simp at hi
  | cons c l ih =>
    cases i with
    | zero =>
      simp at hi
      subst hi
      unfold allocL takeR
      rw [if_pos hf]
      simp
    | succ i =>
      have hc := h0 0 c (by omega) (by simp)
      unfold allocL
      rw [if_neg (by simp [hc]), ih (i := i) (by simpa using hi) (fun j y hj hy => h0 (j + 1) y (by omega) (by simpa using hy))]
      unfold takeR
      simp
theorem rest_len (b : BlkS) (need : Nat) : (rest b need).length ≤ 1 := by unfold rest; split <;> simp

section
variable {e : Env} {w : World} {R : List HP}
set_option maxRecDepth 100000 in
theorem refMay {base : Nat} (hb : base < 18446744073709551616) (size : Int) (h0 : -9223372036854775808 ≤ size) (h1 : size ≤ 9223372036854775807) : Calls Try.prog 20 #[.int .u64 base, .int .i64 size] w (Quiet w (.bool (mayH base size))) := by
  go_enter Try.func20, Try.ntmps20
  go_wp2_with fail
  all_goals go_ret
  all_goals
    refine ⟨congrArg (fun b => Ending.returned (Value.bool b)) (?_ : _ = mayH base size), 0, rfl⟩
    unfold mayH
    rw [Bool.eq_iff_iff]
    simp only [Bool.and_eq_true, decide_eq_true_eq, Bool.false_eq_true, false_iff]
    try simp only [beq_iff_eq] at *
    try omega
    try (rw [IntKind.wrap_u64]; omega)
set_option maxRecDepth 100000 in
set_option maxHeartbeats 1000000 in
theorem refAllocNo {l : List BlkS} (hl : RbOk l) (n : Int) (h0 : ∀ y ∈ l, fitsR n y = false) (v : Value) (hr : Reads w v 3 l.length (l.flatMap rcells)) :
    Calls Try.prog 21 #[v, .int .i64 n] w (Quiet w (.tuple #[v, .int .i64 (-1)])) := by
  obtain ⟨ad, c, rfl⟩ := hr.shape
  obtain ⟨len, hlen⟩ : ∃ len, l.length = len := ⟨_, rfl⟩
  have hlb := hl.len
  have HSZ := Lib.hid hl.sz
  have H0 := Lib.hid h0
  rw [hlen] at hr hlb ⊢
  clear h0 hl
  go_enter Try.func21, Try.ntmps21
  go_wp2_with fail
  go_loopw [6] (fun i wr => ∃ k : Nat, k ≤ len ∧ i = .int .i64 (k : Nat) ∧ ∃ q, wr = w.drewN q) (fun i _ => len - (Go.RowKit.intOf i).toNat)
  case atStart => exact ⟨0, by omega, rfl, 0, rfl⟩
  case round =>
    obtain ⟨k, hk, rfl, q, rfl⟩ := hrel
    by_cases hlt : k < len
    · obtain ⟨b, hbk⟩ : ∃ b, l[k]? = some b := ⟨_, List.getElem?_eq_getElem (by omega)⟩
      obtain ⟨hb1, hb2, hb3⟩ := HSZ.out b (List.mem_of_getElem? hbk)
      have hf := H0.out b (List.mem_of_getElem? hbk)
      obtain ⟨g, of', rfl, hrr⟩ := hr.at (by omega)
      have c1 : w.cell? ⟨g, of' + k * 3 + 1, none⟩ = some (.int .i64 b.size) := by rw [Nat.add_assoc]; exact hrr _ _ (rcells_at hbk 1 (by omega))
      have c2 : w.cell? ⟨g, of' + k * 3 + 2, none⟩ = some (.bool b.used) := by rw [Nat.add_assoc]; exact hrr _ _ (rcells_at hbk 2 (by omega))
      unfold fitsR at hf
      obtain ⟨bo, bs, bu⟩ := b
      dsimp only at *
      obtain ⟨x, hx⟩ : ∃ x, bs - 8 = x := ⟨_, rfl⟩
      have i1 : (bs : Int) - 8 = (x : Int) := by omega
      have xb : x ≤ 65536 := by omega
      clear hrr hbk
      cases bu
      · have hlt' : (x : Int) < n := by simp at hf; omega
        have d1 : decide ((x : Int) < n) = true := by simp; exact hlt'
        clear hf hx
        go_wp2_with fail
        go_roundw
        case rel => exact ⟨k + 1, by omega, by go_num, _, rfl⟩
        case measure => simp [Go.RowKit.intOf]; omega
      · clear hf hx
        go_wp2_with fail
        go_roundw
        case rel => exact ⟨k + 1, by omega, by go_num, _, rfl⟩
        case measure => simp [Go.RowKit.intOf]; omega
    · obtain rfl : k = len := by omega
      go_wp2_with fail
      go_ret2
      exact ⟨rfl, _, rfl⟩
end
end Go.Proofs.Ytjbphdjheklhbaa
