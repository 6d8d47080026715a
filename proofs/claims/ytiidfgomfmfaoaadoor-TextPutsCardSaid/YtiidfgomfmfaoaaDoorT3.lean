/-
  Text: the reference's numbers and perms.
-/
import Derived.Test.YtiidfgomfmfaoaaDoorT2
namespace Go.Proofs.YtiidfgomfmfaoaaDoor
open Go.RowKit

theorem bapp (a b : List UInt8) : (⟨a.toArray⟩ : ByteArray) ++ ⟨b.toArray⟩ = ⟨(a ++ b).toArray⟩ := by
  apply ByteArray.ext
  simp
theorem conv1 (v : Int) (x : Nat) (hv : v = x) (hx : x < 256) (W : World) : (convert 36 9 (.slice (some ⟨W.heap.size, 0, none⟩) 1 1)).run Tryd.prog (W.alloc (.cells #[.int .u8 v] 5)) = .ok ((Value.string ⟨List.toArray ([UInt8.ofNat x])⟩)) (W.alloc (.cells #[.int .u8 v] 5)) := by
  refine run_convert_bytes_back (P := Tryd.prog) _ _ _ 5 ⟨W.heap.size, 0, none⟩ 1 [UInt8.ofNat x] (by kernel_rfl) (by kernel_rfl) (by kernel_rfl) ?_
  intro j hj
  have hj0 : j = 0 := by simpa using hj
  subst hj0
  subst hv
  have : (⟨W.heap.size, 0, none⟩ : Addr).add 0 = ⟨W.heap.size, 0, none⟩ := rfl
  rw [this]
  simp [Nat.mod_eq_of_lt hx]

section
variable {w : World}
set_option maxRecDepth 100000 in
set_option maxHeartbeats 2000000 in
theorem refNumber (n : Nat) (hn : n ≤ 1000000) : Calls Tryd.prog 26 #[.int .i64 n] w (Pur w ((Value.string ⟨List.toArray (Lib.decDigits n)⟩))) := by
  go_enter Tryd.func26, Tryd.ntmps26
  go_wp2
  go_loopw [0, 3] (fun i s wr => ∃ (k : Nat) (l : List UInt8), l.length + k ≤ n ∧ i = .int .i64 (k : Nat) ∧ s = (Value.string ⟨List.toArray (l)⟩) ∧ Hid (Lib.decDigits n = Lib.decDigits k ++ l) ∧ Below w.heap.size w wr) (fun i _ _ => (intOf i).toNat)
  case atStart => exact ⟨n, [], by simp, rfl, rfl, Lib.hid (by simp), Below.refl _ _⟩
  case round =>
    obtain ⟨k, l, hk, rfl, rfl, HL, hb⟩ := hrel
    by_cases h9 : 9 < k
    · have hcv0 := conv1 (48 + (k : Int) % 10) (48 + k % 10) (by omega) (by omega)
      obtain ⟨c, hc⟩ : ∃ c : UInt8, UInt8.ofNat (48 + k % 10) = c := ⟨_, rfl⟩
      have HC := Lib.hid hc
      have hcv := hcv0
      rw [hc] at hcv
      clear hcv0 hc
      go_wp2
      go_roundw
      case rel =>
        refine ⟨k / 10, c :: l, by simp; omega, by congr 1, ?_, Lib.hid ?_, hb.alloc hb.size _⟩
        · exact congrArg Value.string (bapp [c] l)
        · rw [HL.out, Lib.decDigits, dif_neg (by omega), HC.out]; simp
      case measure => simp [intOf]; omega
    · have hcv0 := conv1 (48 + (k : Int)) (48 + k) (by omega) (by omega)
      obtain ⟨c, hc⟩ : ∃ c : UInt8, UInt8.ofNat (48 + k) = c := ⟨_, rfl⟩
      have HC := Lib.hid hc
      have hcv := hcv0
      rw [hc] at hcv
      clear hcv0 hc
      go_wp2
      go_ret
      have he : Lib.decDigits n = [c] ++ l := by rw [HL.out, Lib.decDigits, dif_pos (by omega), HC.out]
      rw [he]
      exact ⟨congrArg (fun x => Ending.returned (Value.string x)) (bapp [c] l), hb.alloc hb.size _⟩
end
end Go.Proofs.YtiidfgomfmfaoaaDoor
