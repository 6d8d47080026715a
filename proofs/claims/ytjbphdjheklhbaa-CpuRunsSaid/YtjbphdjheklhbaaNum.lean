/-
  Package num: Put, Get (numbers as bytes).
-/
import Derived.Test.YtjbphdjheklhbaaSL2
import Derived.Laws.BitsAllLaws
import Derived.Laws.Bits64
namespace Go.Proofs.Ytjbphdjheklhbaa
open Go.RowKit

def u64v (l : List Nat) : List Value := l.map (fun n : Nat => Value.int .u64 (n : Int))
theorem u64v_get {l : List Nat} {i : Nat} (h : i < l.length) : (u64v l)[i]? = some (.int .u64 ((l.getD i 0 : Nat) : Int)) := by
  simp [u64v, List.getD, List.getElem?_eq_getElem h]
/-- The byte at place i of n. -/
def byteAt (n i : Nat) : UInt8 := UInt8.ofNat (n / 256 ^ i)
def le (k n : Nat) : List UInt8 := (List.range k).map (byteAt n)
theorem le_length (k n : Nat) : (le k n).length = k := by simp [le]

theorem byteAt_toNat (n i : Nat) : (byteAt n i).toNat = n / 256 ^ i % 256 := by simp [byteAt, UInt8.toNat_ofNat']
theorem le_succ (k n : Nat) : le (k + 1) n = le k n ++ [byteAt n k] := by simp [le, List.range_succ]
theorem flatMap_le_length (k : Nat) (l : List Nat) : (l.flatMap (le k)).length = l.length * k := by
  induction l with
  | nil => simp
  | cons x l ih => simp [ih, le_length, Nat.succ_mul]; omega

section
variable {e : Env} {w : World} {R : List HP}
set_option maxRecDepth 100000 in
set_option maxHeartbeats 1000000 in
theorem numPut_any (H : Holds e w R) (k : Nat) (hk : 1 ≤ k) (hk8 : k ≤ 8) (ns : List Nat) (hl : ns.length ≤ 100000) (v : Value) (hr : ∀ w', Holds e w' R → Reads w' v 1 ns.length (u64v ns)) :
    Calls Try.prog 54 #[.int .i64 k, v] w (RetEx e (fun v : Value => v) (fun v => bts v (ns.flatMap (le k)) :: R)) := by
  obtain ⟨a, c, rfl⟩ := (hr w H).shape
  go_enter Try.func54, Try.ntmps54
  go_wp2_with fail
  go_loopw [5, 17] (fun o i wr => ∃ j : Nat, j ≤ ns.length ∧ i = .int .i64 (j : Nat) ∧ Holds e wr (bts o ((ns.take j).flatMap (le k)) :: R)) (fun _ i _ => ns.length - (intOf i).toNat)
  case atStart => exact ⟨0, by omega, rfl, bts.nil H⟩
  case round =>
    obtain ⟨j, hj, rfl, HH⟩ := hrel
    by_cases hlt : j < ns.length
    · obtain ⟨g, o, rfl, h1⟩ := (hr _ HH.drop).at (by omega)
      have c1 := h1 j _ (u64v_get hlt)
      obtain ⟨x, hx⟩ : ∃ x, ns.getD j 0 = x := ⟨_, rfl⟩
      rw [hx] at c1
      have HX := Lib.hid hx
      clear hx h1
      go_wp2_with fail
      have hfl : ((ns.take j).flatMap (le k)).length ≤ 800000 := by
        rw [flatMap_le_length]
        have h2 : (ns.take j).length ≤ ns.length := by rw [List.length_take]; omega
        calc (ns.take j).length * k ≤ 100000 * 8 := Nat.mul_le_mul (by omega) (by omega)
          _ = 800000 := rfl
      go_loopw [5, 22] (fun o i wr => ∃ q : Nat, q ≤ k ∧ i = .int .i64 (q : Nat) ∧ Holds e wr (bts o ((ns.take j).flatMap (le k) ++ le q x) :: R)) (fun _ i _ => k - (intOf i).toNat)
      case atStart => exact ⟨0, by omega, rfl, by simpa [le] using HH⟩
      case round =>
        obtain ⟨q, hq, rfl, HH⟩ := hrel
        by_cases hqk : q < k
        · go_wp2_with (at_builtin; refine wpList_append_sl rfl _ _ _ rfl 5 1 1 elem_u8 _ _ (u8v ((ns.take j).flatMap (le k) ++ le q x)) rfl ((HH.alloc _).swap) _ 1 [.int .u8 ((x : Int) / 2 ^ (8 * q) % 256)] rfl (reads_lit1 _ _ _) (by simp [Value.oneCell']) ?_ ?_ ?_)
          · rw [List.length_append, le_length]; unfold maxLen; omega
          · rw [List.length_append, le_length]; omega
          intro v' w2 H2
          have e1 : (Value.int .u8 ((x : Int) / 2 ^ (8 * q) % 256)) = .int .u8 ((byteAt x q).toNat : Int) := by
            rw [byteAt_toNat, show (256 : Nat) ^ q = 2 ^ (8 * q) by rw [Nat.pow_mul]]; simp
          rw [e1] at H2
          have H3 : Holds e w2 (bts v' ((ns.take j).flatMap (le k) ++ le (q + 1) x) :: R) := by
            unfold bts
            rw [le_succ, ← List.append_assoc, u8v_append, List.length_append]
            exact row_len (H2.swap).drop (by simp)
          go_wp2_with fail
          go_roundw
          case rel => exact ⟨q + 1, by omega, by go_num, H3⟩
          case measure => simp [intOf]; omega
        · obtain rfl : q = k := by omega
          go_wp2_with fail
          go_roundw
          case rel =>
            refine ⟨j + 1, by omega, by go_num, ?_⟩
            rw [List.take_add_one, get_getD (d := 0) hlt, List.flatMap_append]
            rw [HX.out]
            simpa using HH
          case measure => simp [intOf]; omega
    · obtain rfl : j = ns.length := by omega
      rw [List.take_length] at HH
      go_wp2_with fail
      go_ret
      exact ⟨_, rfl, HH⟩

/-- The number that bytes tell. -/
def unle : List UInt8 → Nat
  | [] => 0
  | x :: l => x.toNat + 256 * unle l
theorem unle_snoc (l : List UInt8) (x : UInt8) : unle (l ++ [x]) = unle l + x.toNat * 256 ^ l.length := by
  induction l with
  | nil => simp [unle]
  | cons y l ih => simp only [List.cons_append, unle, ih, List.length_cons, Nat.pow_succ]; rw [Nat.mul_add, Nat.add_assoc, Nat.mul_comm (256 ^ l.length) 256, Nat.mul_left_comm]
theorem unle_lt (l : List UInt8) : unle l < 256 ^ l.length := by
  induction l with
  | nil => simp [unle]
  | cons y l ih => simp only [unle, List.length_cons, Nat.pow_succ]; have := y.toNat_lt; omega
theorem unle_le (k n : Nat) (h : n < 256 ^ k) : unle (le k n) = n := by
  have key : ∀ k, unle (le k n) = n % 256 ^ k := by
    intro k
    induction k with
    | zero => simp [le, unle, Nat.mod_one]
    | succ k ih =>
      rw [le_succ, unle_snoc, ih, le_length, byteAt_toNat]
      rw [Nat.pow_succ, Nat.mod_mul, Nat.mul_comm (256 ^ k)]
  rw [key, Nat.mod_eq_of_lt h]

theorem or_add (a b k : Nat) (h : a < 2 ^ k) : a ||| b * 2 ^ k = a + b * 2 ^ k := by
  rw [Nat.or_comm, Nat.mul_comm b, ← Nat.two_pow_add_eq_or_of_lt h, Nat.add_comm]

theorem there_yes {e : Env} {w : World} {R : List HP} (H : Holds e w R) (ad : Option Addr) (n c at' k : Nat) (h1 : 1 ≤ k) (h8 : k ≤ 8) (h : at' + k ≤ n) (hn : n ≤ 4611686018427387904) :
    Calls Try.prog 87 #[.slice ad n c, .int .i64 at', .int .i64 k] w (Ret e (.bool true) R) := by
  go_enter Try.func87, Try.ntmps87
  go_wp2
  go_ret
  exact ⟨by simp; omega, H⟩

set_option maxRecDepth 100000 in
set_option maxHeartbeats 1000000 in
theorem numGet_any (H : Holds e w R) (k : Nat) (hk : 1 ≤ k) (hk8 : k ≤ 8) (l : List UInt8) (at' : Nat) (hat : at' + k ≤ l.length) (hl : l.length ≤ 4611686018427387904) (v : Value) (hr : ∀ w', Holds e w' R → RdB w' v l) :
    Calls Try.prog 67 #[v, .int .i64 at', .int .i64 k] w (Ret e (.tuple #[.int .u64 (unle ((l.drop at').take k)), .bool true]) R) := by
  obtain ⟨a, c, rfl⟩ := (hr w H).shape
  go_enter Try.func67, Try.ntmps67
  go_wp2_with fail
  refine (there_yes H a l.length c at' k hk hk8 hat hl).mono ?_
  rintro e w1 ⟨rfl, H1⟩
  go_wp2_with fail
  go_loopw [8, 16] (fun o i wr => ∃ j : Nat, j ≤ k ∧ i = .int .i64 (j : Nat) ∧ o = .int .u64 (unle ((l.drop at').take j)) ∧ Holds e wr R) (fun _ i _ => k - (intOf i).toNat)
  case atStart => exact ⟨0, by omega, rfl, by simp [unle], H1⟩
  case round =>
    obtain ⟨j, hj, rfl, rfl, HH⟩ := hrel
    by_cases hlt : j < k
    · obtain ⟨g, o, rfl, h1⟩ := (hr _ HH).at (by omega)
      have c1 := h1 (at' + j) _ (u8v_get (by omega))
      have hs : unle ((l.drop at').take (j + 1)) = unle ((l.drop at').take j) + (l.getD (at' + j) 0).toNat * 2 ^ (8 * j) := by
        rw [List.take_add_one, List.getElem?_drop, get_getD (d := 0) (by omega), Option.toList_some, unle_snoc, List.length_take, List.length_drop, Nat.min_eq_left (by omega), Nat.pow_mul]
      have hb := unle_lt ((l.drop at').take j)
      rw [List.length_take, List.length_drop, Nat.min_eq_left (by omega), show (256 : Nat) ^ j = 2 ^ (8 * j) by rw [Nat.pow_mul]] at hb
      have hb2 : 2 ^ (8 * j) ≤ 2 ^ 56 := Nat.pow_le_pow_right (by omega) (by omega)
      have hx := (l.getD (at' + j) 0).toNat_lt
      generalize (l.getD (at' + j) 0).toNat = x at *
      generalize unle ((l.drop at').take j) = m at *
      have HS := Lib.hid hs
      clear hs h1
      have hxy : x * 2 ^ (8 * j) < 18446744073709551616 := by
        have h3 : x * 2 ^ (8 * j) < 256 * 2 ^ (8 * j) := Nat.mul_lt_mul_of_pos_right hx (Nat.two_pow_pos _)
        have h4 : 256 * 2 ^ (8 * j) ≤ 256 * 2 ^ 56 := Nat.mul_le_mul_left _ hb2
        omega
      have HE : Hid (bits BinOp.or IntKind.u64 (m : Int) (IntKind.u64.wrap ((x : Int) * 2 ^ (8 * j))) = ((m + x * 2 ^ (8 * j) : Nat) : Int)) := Lib.hid (by
        have e1 : ((x : Int) * 2 ^ (8 * j)) = ((x * 2 ^ (8 * j) : Nat) : Int) := by simp
        rw [IntKind.wrap_u64, e1]
        have e2 : (((x * 2 ^ (8 * j) : Nat) : Int) % 18446744073709551616) = ((x * 2 ^ (8 * j) : Nat) : Int) := Int.emod_eq_of_lt (by omega) (by omega)
        rw [e2, u64_or_nat _ _ (by omega) hxy, or_add _ _ _ hb])
      clear hb hxy hb2
      go_wp2_with fail
      go_roundw
      case rel => exact ⟨j + 1, by omega, by go_num, by rw [HS.out, HE.out], HH⟩
      case measure => simp [intOf]; omega
    · obtain rfl : j = k := by omega
      go_wp2_with fail
      go_ret2
      exact ⟨rfl, HH⟩
end
end Go.Proofs.Ytjbphdjheklhbaa
