/-
  Layer 48: the reference's instructions, and numbers as bytes.
-/
import Derived.Test.YtjbphdjheklhbaaCpB
import Derived.Lib.SliceRun
namespace Go.Proofs.Ytjbphdjheklhbaa
open Go.RowKit

theorem convB {w : World} {a : Option Addr} {c : Nat} {l : List UInt8} (h : RdB w (.slice a l.length c) l) : (convert 22 9 (.slice a l.length c)).run Try.prog w = .ok (.string ⟨l.toArray⟩) w := by
  by_cases hl : 0 < l.length
  · obtain ⟨g, o, rfl, hc⟩ := Reads.at h (by omega)
    refine run_convert_bytes_back (P := Try.prog) _ _ _ 5 ⟨g, o, none⟩ _ l (by kernel_rfl) (by kernel_rfl) (by kernel_rfl) ?_
    intro j hj
    rw [Addr.add_at]
    refine hc j _ ?_
    simp [u8v, hj]
  · obtain rfl : l = [] := List.eq_nil_of_length_eq_zero (by omega)
    cases a with
    | none => kernel_rfl
    | some a => exact run_convert_bytes_back (P := Try.prog) _ _ _ 5 a _ [] (by kernel_rfl) (by kernel_rfl) (by kernel_rfl) (fun j hj => by simp at hj)
section
variable {e : Env} {w : World} {R : List HP}
theorem ref01Bytes {va vb : Value} {la lb : List UInt8} (ha : RdB w va la) (hb : RdB w vb lb) : Calls Try.prog 29 #[va, vb] w (Quiet w (.bool (decide (la = lb)))) := by
  obtain ⟨a, c, rfl⟩ := ha.shape
  obtain ⟨b, d, rfl⟩ := hb.shape
  have h1 := convB ha
  have h2 := convB hb
  generalize la.length = na at *
  generalize lb.length = nb at *
  go_enter Try.func29, Try.ntmps29
  go_wp2_with fail
  go_ret
  refine ⟨congrArg (fun b => Ending.returned (Value.bool b)) (?_ : _ = decide (la = lb)), 0, rfl⟩
  rw [Bool.eq_iff_iff, decide_eq_true_eq]
  exact beq_iff_eq
set_option maxRecDepth 100000 in
theorem ref48May (x : InsS) (H : Holds e w R) : Calls Try.prog 25 #[x.val] w (Ret e (.bool (mayI x)) R) := by
  obtain ⟨op, r, s, imm⟩ := x
  have H1 := (H.alloc (.cells #[.int .i64 op, .int .i64 r, .int .i64 s, .int .i32 imm] 70)).drop
  have HH := Lib.hid H1
  clear H H1
  unfold InsS.val
  go_enter Try.func25, Try.ntmps25
  go_wp2_with fail
  all_goals go_ret
  all_goals
    refine ⟨congrArg (fun b => Ending.returned (Value.bool b)) (?_ : _ = mayI ⟨op, r, s, imm⟩), HH.out⟩
    unfold mayI
    dsimp only
    rw [Bool.eq_iff_iff]
    simp only [Bool.and_eq_true, decide_eq_true_eq, Bool.false_eq_true, false_iff]
    try omega
set_option maxRecDepth 100000 in
theorem ref48Wide (x : InsS) (h0 : -2147483648 ≤ x.imm) (h1 : x.imm ≤ 2147483647) (H : Holds e w R) : Calls Try.prog 53 #[x.val] w (Ret e (.int .u64 (wideN x.imm)) R) := by
  obtain ⟨op, r, s, imm⟩ := x
  have H1 := (H.alloc (.cells #[.int .i64 op, .int .i64 r, .int .i64 s, .int .i32 imm] 70)).drop
  have HH := Lib.hid H1
  dsimp only at h0 h1
  clear H H1
  unfold InsS.val
  dsimp only
  by_cases hs : 0 ≤ imm
  · obtain ⟨n, rfl⟩ : ∃ n : Nat, imm = n := ⟨imm.toNat, by omega⟩
    have hw : wideN (n : Int) = n := by unfold wideN; omega
    have d0 : decide ((0 : Int) ≤ (n : Int)) = true := by simp
    rw [hw]
    go_enter Try.func53, Try.ntmps53
    go_wp2_with fail
    go_ret
    exact ⟨rfl, HH.out⟩
  · obtain ⟨n, hn⟩ : ∃ n : Nat, imm = -(n : Int) := ⟨(-imm).toNat, by omega⟩
    have d0 : decide ((0 : Int) ≤ imm) = false := decide_eq_false hs
    have i1 : -imm = (n : Int) := by omega
    obtain ⟨W, hW⟩ : ∃ W, wideN imm = W := ⟨_, rfl⟩
    have hw : IntKind.u64.wrap ((0 : Int) - (n : Int)) = (W : Int) := by rw [← hW, IntKind.wrap_u64]; unfold wideN; omega
    have hw2 : IntKind.u64.wrap (-(n : Int)) = (W : Int) := by rw [← hW, IntKind.wrap_u64]; unfold wideN; omega
    have nb : n ≤ 2147483648 ∧ 1 ≤ n := by omega
    obtain ⟨nb1, nb2⟩ := nb
    rw [hW]
    clear hn hW
    go_enter Try.func53, Try.ntmps53
    go_wp2_with fail
    go_ret
    exact ⟨rfl, HH.out⟩
set_option maxRecDepth 100000 in
set_option maxHeartbeats 1000000 in
theorem ref01Put (k : Nat) (hk : k ≤ 8) (n : Nat) (hn : n < 18446744073709551616) (H : Holds e w R) : Calls Try.prog 52 #[.int .i64 k, .int .u64 n] w (RetEx e (fun v : Value => v) (fun v => bts v (le k n) :: R)) := by
  go_enter Try.func52, Try.ntmps52
  go_wp2_with fail
  go_loopw [1, 5, 6] (fun z o i wr => ∃ (j : Nat) (ov : Value), ov = o ∧ j ≤ k ∧ i = .int .i64 (j : Nat) ∧ z = .int .u64 ((n / 256 ^ j : Nat) : Int) ∧ Holds e wr (row ov 5 1 j (u8v (le j n)) :: R)) (fun _ _ i _ => k - (Go.RowKit.intOf i).toNat)
  case atStart => exact ⟨0, _, rfl, by omega, rfl, by simp, row.nil _ 1 H⟩
  case round =>
    clear H
    obtain ⟨j, ov, rfl, hj, rfl, rfl, HX⟩ := hrel
    by_cases hlt : j < k
    · have hx : n / 256 ^ j < 18446744073709551616 := Nat.lt_of_le_of_lt (Nat.div_le_self _ _) hn
      have hb := byteAt_toNat n j
      have hnx : n / 256 ^ (j + 1) = n / 256 ^ j / 256 := by rw [Nat.pow_succ, Nat.div_div_eq_div_mul]
      have hle := le_succ j n
      obtain ⟨y, hy⟩ : ∃ y, n / 256 ^ (j + 1) = y := ⟨_, rfl⟩
      have HY := Lib.hid hy
      rw [hy] at hnx
      generalize n / 256 ^ j = x at *
      obtain ⟨t, ht⟩ : ∃ t, x % 256 = t := ⟨_, rfl⟩
      have i1 : (x : Int) % 256 = (t : Int) := by omega
      have i2 : (x : Int) / 256 = (y : Int) := by omega
      rw [ht] at hb
      have tb : t < 256 := by omega
      have HA : Holds e (wr.alloc (.cells #[.int .u8 t] 5)) (row ov 5 1 j (u8v (le j n)) :: R) := (HX.alloc _).drop
      have HRL := reads_lits wr [.int .u8 t] 5 1 1 rfl
      have HLE := Lib.hid hle
      have HBB := Lib.hid hb
      clear HX hle hb ht hnx hy
      go_wp2_with (at_builtin; refine wpList_append_sl rfl (.tmp 12) _ _ rfl 5 1 1 elem_u8 ov j (u8v (le j n)) rfl HA (.slice (some ⟨wr.heap.size, 0, none⟩) 1 1) 1 [.int .u8 t] rfl HRL (by simp [Value.oneCell']) ?_ ?_ ?_)
      · unfold maxLen; omega
      · omega
      intro v5 w5 H5
      have HF : Hid (Holds e w5 (row v5 5 1 (j + 1) (u8v (le (j + 1) n)) :: R)) := Lib.hid (by
        rw [HLE.out, u8v_append]
        have e1 : u8v [byteAt n j] = [.int .u8 t] := by simp [u8v, HBB.out]
        rw [e1]
        exact H5)
      clear HA HRL H5
      go_wp2_with fail
      go_roundw
      case rel => exact ⟨j + 1, v5, rfl, by omega, by go_num, by rw [HY.out], HF.out⟩
      case measure => simp [Go.RowKit.intOf]; omega
    · obtain rfl : k = j := by omega
      have HH := Lib.hid HX
      clear HX
      go_wp2_with fail
      go_ret
      exact ⟨ov, rfl, by unfold bts; rw [le_length]; exact HH.out⟩
theorem unle_step {bs : List UInt8} {p k : Nat} (h : p < bs.length) : unle ((bs.drop p).take (k + 1)) = 256 * unle ((bs.drop (p + 1)).take k) + (bs.getD p 0).toNat := by
  rw [List.drop_eq_getElem_cons h, List.take_succ_cons, unle, Nat.add_comm]
  simp [List.getD, List.getElem?_eq_getElem h]
set_option maxRecDepth 100000 in
set_option maxHeartbeats 1000000 in
theorem ref01Get (l : List UInt8) (at' k : Nat) (hat : at' + k ≤ l.length) (hk : 1 ≤ k) (hk8 : k ≤ 8) (hl : l.length ≤ 100000) (v : Value) (hr : RdB w v l) :
    Calls Try.prog 68 #[v, .int .i64 at', .int .i64 k] w (Quiet w (.int .u64 (unle ((l.drop at').take k)))) := by
  obtain ⟨ad, c, rfl⟩ := hr.shape
  obtain ⟨g, o, rfl, hrr⟩ := hr.at (by omega)
  obtain ⟨len, hlen⟩ : ∃ len, l.length = len := ⟨_, rfl⟩
  have HLEN := Lib.hid hlen
  rw [hlen] at hat hl ⊢
  have hk1 : (k : Int) - 1 = ((k - 1 : Nat) : Int) := by omega
  obtain ⟨k1, hkk⟩ : ∃ k1, k - 1 = k1 := ⟨_, rfl⟩
  rw [hkk] at hk1
  clear hlen hr
  go_enter Try.func68, Try.ntmps68
  go_wp2_with fail
  go_loopw [7, 8] (fun x i wr => ∃ (j : Nat) (z : Int), j ≤ k ∧ z = (j : Int) - 1 ∧ i = .int .i64 z ∧ x = .int .u64 (unle ((l.drop (at' + j)).take (k - j))) ∧ ∃ q, wr = w.drewN q) (fun _ i _ => ((Go.RowKit.intOf i) + 1).toNat)
  case atStart => exact ⟨k, (k1 : Int), by omega, by omega, rfl, by simp [unle], 0, rfl⟩
  case round =>
    obtain ⟨j, z, hj, hzj, rfl, rfl, q, rfl⟩ := hrel
    by_cases hj0 : j = 0
    · subst hj0
      obtain rfl : z = -1 := by omega
      have hu : unle ((l.drop (at' + 0)).take (k - 0)) = unle ((l.drop at').take k) := rfl
      rw [hu]
      generalize unle ((l.drop at').take k) = U at *
      clear hzj hu hrr
      go_wp2_with fail
      go_ret
      exact ⟨rfl, _, rfl⟩
    · obtain ⟨j', rfl⟩ : ∃ j', j = j' + 1 := ⟨j - 1, by omega⟩
      obtain rfl : z = (j' : Int) := by omega
      obtain ⟨p, hp⟩ : ∃ p, at' + j' = p := ⟨_, rfl⟩
      have c0 : w.cell? ⟨g, o + p, none⟩ = some (.int .u8 ((l.getD p 0).toNat : Int)) := hrr p _ (u8v_get (by rw [HLEN.out]; omega))
      have i1 : (at' : Int) + (j' : Int) = (p : Int) := by omega
      have hub := unle_lt ((l.drop (at' + (j' + 1))).take (k - (j' + 1)))
      have hlj : ((l.drop (at' + (j' + 1))).take (k - (j' + 1))).length = k - (j' + 1) := by rw [List.length_take, List.length_drop, HLEN.out]; omega
      rw [hlj] at hub
      have hst : unle ((l.drop (at' + j')).take (k - j')) = 256 * unle ((l.drop (at' + (j' + 1))).take (k - (j' + 1))) + (l.getD p 0).toNat := by
        rw [hp, show k - j' = (k - (j' + 1)) + 1 by omega, unle_step (by rw [HLEN.out]; omega), show at' + (j' + 1) = p + 1 by omega]
      have hx := (l.getD p 0).toNat_lt
      generalize (l.getD p 0).toNat = x at *
      generalize unle ((l.drop (at' + (j' + 1))).take (k - (j' + 1))) = u at *
      have hu56 : u < 72057594037927936 := by
        have h2 : 256 ^ (k - (j' + 1)) ≤ 256 ^ 7 := Nat.pow_le_pow_right (by omega) (by omega)
        exact Nat.lt_of_lt_of_le hub (Nat.le_trans h2 (by decide))
      obtain ⟨v1, hv1⟩ : ∃ v1, 256 * u = v1 := ⟨_, rfl⟩
      have i2 : (256 : Int) * (u : Int) = (v1 : Int) := by omega
      obtain ⟨v2, hv2⟩ : ∃ v2, v1 + x = v2 := ⟨_, rfl⟩
      have i3 : (v1 : Int) + (x : Int) = (v2 : Int) := by omega
      rw [hv1, hv2] at hst
      have HST := Lib.hid hst
      have bv : v1 < 18446744073709551616 ∧ v2 < 18446744073709551616 := by omega
      obtain ⟨bv1, bv2⟩ := bv
      have bp : p < len := by omega
      clear hub hlj hzj hp hst hv1 hv2
      go_wp2_with fail
      go_roundw
      case rel => exact ⟨j', (j' : Int) - 1, by omega, rfl, by go_num, by rw [HST.out], _, rfl⟩
      case measure => simp [Go.RowKit.intOf]; try omega
theorem le_mod (k n : Nat) : le k (n % 256 ^ k) = le k n := by
  unfold le
  apply List.map_congr_left
  intro i hi
  have hik : i < k := List.mem_range.1 hi
  apply UInt8.toNat_inj.1
  rw [byteAt_toNat, byteAt_toNat]
  obtain ⟨d, rfl⟩ : ∃ d, k = i + 1 + d := ⟨k - (i + 1), by omega⟩
  have e1 : (256 : Nat) ^ (i + 1 + d) = 256 ^ i * (256 * 256 ^ d) := by rw [Nat.pow_add, Nat.pow_succ]; rw [Nat.mul_assoc]
  rw [e1, Nat.mod_mul_right_div_self]
  rw [Nat.mod_mul_right_mod]
end
end Go.Proofs.Ytjbphdjheklhbaa
