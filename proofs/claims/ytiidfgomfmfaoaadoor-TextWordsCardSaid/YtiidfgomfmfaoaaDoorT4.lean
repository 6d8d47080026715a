/-
  Text: perms, both; the reference's hexadecimal digits and addresses.
-/
import Derived.Test.YtiidfgomfmfaoaaDoorT3
namespace Go.Proofs.YtiidfgomfmfaoaaDoor
open Go.RowKit

section
variable {w : World}
set_option maxRecDepth 100000 in
set_option maxHeartbeats 2000000 in
theorem perm_any (hT : Tab w) (p : Int) : Calls Tryd.prog 13 #[.int .i64 p] w (Pur w ((Value.string ⟨List.toArray (permW p)⟩))) := by
  unfold permW
  by_cases hp : p < 0 ∨ 255 < p
  · rw [if_pos hp]
    rcases (by omega : p < 0 ∨ (0 ≤ p ∧ 255 < p)) with h | ⟨h, h2⟩
    all_goals
      clear hp
      go_enter Tryd.func13, Tryd.ntmps13
      go_wp2
      go_ret
      exact ⟨rfl, Below.refl _ _⟩
  · rw [if_neg hp]
    rcases mayP_cases p with ⟨rfl, h⟩ | ⟨rfl, h⟩ | ⟨rfl, h⟩ | ⟨rfl, h⟩ | ⟨rfl, h⟩ | ⟨h1, h3, h4, h5, h7, h⟩
    · exact perm_1
    · exact perm_3
    · exact perm_4
    · exact perm_5
    · exact perm_7
    · rw [h, if_neg (by decide)]
      have cm := pteMay (w := w) p
      rw [h] at cm
      have h0 : 0 ≤ p := by omega
      have h255 : p ≤ 255 := by omega
      clear hp h h1 h3 h4 h5 h7
      go_enter Tryd.func13, Tryd.ntmps13
      go_wp2_with fail
      refine cm.mono ?_
      rintro e w1 ⟨rfl, hb⟩
      go_wp2_with fail
      refine (number_any (hT.below hb) p (by omega) (by omega)).mono ?_
      rintro e w2 ⟨rfl, hb2⟩
      go_wp2
      go_ret
      exact ⟨rfl, hb.trans (hb2.mono hb.size)⟩

set_option maxRecDepth 100000 in
set_option maxHeartbeats 2000000 in
theorem refPerm_1 : Calls Tryd.prog 14 #[.int .i64 1] w (Pur w ((Value.string ⟨List.toArray ([114])⟩))) := by
  have cm := refMay (w := w) 1
  rw [show mayP 1 = true from rfl] at cm
  go_enter Tryd.func14, Tryd.ntmps14
  go_wp2_with fail
  refine cm.mono ?_
  rintro e w1 ⟨rfl, hb⟩
  go_wp2
  go_ret
  exact ⟨by first | rfl | decide, hb⟩
set_option maxRecDepth 100000 in
set_option maxHeartbeats 2000000 in
theorem refPerm_3 : Calls Tryd.prog 14 #[.int .i64 3] w (Pur w ((Value.string ⟨List.toArray ([114, 119])⟩))) := by
  have cm := refMay (w := w) 3
  rw [show mayP 3 = true from rfl] at cm
  go_enter Tryd.func14, Tryd.ntmps14
  go_wp2_with fail
  refine cm.mono ?_
  rintro e w1 ⟨rfl, hb⟩
  go_wp2
  go_ret
  exact ⟨by first | rfl | decide, hb⟩
set_option maxRecDepth 100000 in
set_option maxHeartbeats 2000000 in
theorem refPerm_4 : Calls Tryd.prog 14 #[.int .i64 4] w (Pur w ((Value.string ⟨List.toArray ([120])⟩))) := by
  have cm := refMay (w := w) 4
  rw [show mayP 4 = true from rfl] at cm
  go_enter Tryd.func14, Tryd.ntmps14
  go_wp2_with fail
  refine cm.mono ?_
  rintro e w1 ⟨rfl, hb⟩
  go_wp2
  go_ret
  exact ⟨by first | rfl | decide, hb⟩
set_option maxRecDepth 100000 in
set_option maxHeartbeats 2000000 in
theorem refPerm_5 : Calls Tryd.prog 14 #[.int .i64 5] w (Pur w ((Value.string ⟨List.toArray ([114, 120])⟩))) := by
  have cm := refMay (w := w) 5
  rw [show mayP 5 = true from rfl] at cm
  go_enter Tryd.func14, Tryd.ntmps14
  go_wp2_with fail
  refine cm.mono ?_
  rintro e w1 ⟨rfl, hb⟩
  go_wp2
  go_ret
  exact ⟨by first | rfl | decide, hb⟩
set_option maxRecDepth 100000 in
set_option maxHeartbeats 2000000 in
theorem refPerm_7 : Calls Tryd.prog 14 #[.int .i64 7] w (Pur w ((Value.string ⟨List.toArray ([114, 119, 120])⟩))) := by
  have cm := refMay (w := w) 7
  rw [show mayP 7 = true from rfl] at cm
  go_enter Tryd.func14, Tryd.ntmps14
  go_wp2_with fail
  refine cm.mono ?_
  rintro e w1 ⟨rfl, hb⟩
  go_wp2
  go_ret
  exact ⟨by first | rfl | decide, hb⟩
set_option maxRecDepth 100000 in
set_option maxHeartbeats 2000000 in
theorem refPerm (p : Int) : Calls Tryd.prog 14 #[.int .i64 p] w (Pur w ((Value.string ⟨List.toArray (permW p)⟩))) := by
  unfold permW
  by_cases hp : p < 0 ∨ 255 < p
  · rw [if_pos hp]
    rcases (by omega : p < 0 ∨ (0 ≤ p ∧ 255 < p)) with h | ⟨h, h2⟩
    all_goals
      clear hp
      go_enter Tryd.func14, Tryd.ntmps14
      go_wp2
      go_ret
      exact ⟨rfl, Below.refl _ _⟩
  · rw [if_neg hp]
    rcases mayP_cases p with ⟨rfl, h⟩ | ⟨rfl, h⟩ | ⟨rfl, h⟩ | ⟨rfl, h⟩ | ⟨rfl, h⟩ | ⟨h1, h3, h4, h5, h7, h⟩
    case neg.inr.inr.inr.inr.inr =>
      rw [h, if_neg (by decide)]
      have cm := refMay (w := w) p
      rw [h] at cm
      have h0 : 0 ≤ p := by omega
      have h255 : p ≤ 255 := by omega
      clear hp h h1 h3 h4 h5 h7
      obtain ⟨n, rfl⟩ : ∃ n : Nat, p = (n : Int) := ⟨p.toNat, by omega⟩
      have hn := refNumber (w := w) n (by omega)
      go_enter Tryd.func14, Tryd.ntmps14
      go_wp2_with fail
      refine cm.mono ?_
      rintro e w1 ⟨rfl, hb⟩
      go_wp2_with fail
      refine (refNumber n (by omega)).mono ?_
      rintro e w2 ⟨rfl, hb2⟩
      go_wp2
      go_ret
      exact ⟨by rw [Lib.itoa_nonneg]; rfl, hb.trans (hb2.mono hb.size)⟩
    · exact refPerm_1
    · exact refPerm_3
    · exact refPerm_4
    · exact refPerm_5
    · exact refPerm_7

theorem hexs (k : Nat) (h : k < 16) : (⟨#[48, 49, 50, 51, 52, 53, 54, 55, 56, 57, 97, 98, 99, 100, 101, 102]⟩ : ByteArray).extract k (k + 1) = ⟨#[(#[48, 49, 50, 51, 52, 53, 54, 55, 56, 57, 97, 98, 99, 100, 101, 102] : Array UInt8).getD k 0]⟩ := by
  have : ∀ k : Fin 16, (⟨#[48, 49, 50, 51, 52, 53, 54, 55, 56, 57, 97, 98, 99, 100, 101, 102]⟩ : ByteArray).extract k (k + 1) = ⟨#[(#[48, 49, 50, 51, 52, 53, 54, 55, 56, 57, 97, 98, 99, 100, 101, 102] : Array UInt8).getD k 0]⟩ := by decide
  exact this ⟨k, h⟩
def hexd (k : Nat) : UInt8 := (#[48, 49, 50, 51, 52, 53, 54, 55, 56, 57, 97, 98, 99, 100, 101, 102] : Array UInt8).getD k 0

theorem refHex (k : Nat) (hk : k < 16) : Calls Tryd.prog 34 #[.int .i64 k] w (Pur w ((Value.string ⟨List.toArray ([hexd k])⟩))) := by
  have hx : (⟨#[48, 49, 50, 51, 52, 53, 54, 55, 56, 57, 97, 98, 99, 100, 101, 102]⟩ : ByteArray).extract k (k + 1) = ⟨#[hexd k]⟩ := hexs k hk
  generalize hexd k = c at *
  go_enter Tryd.func34, Tryd.ntmps34
  go_wp2
  go_ret
  exact ⟨rfl, Below.refl _ _⟩

/-- The hexadecimal digits. -/
def hexD (u : Nat) : List UInt8 :=
  if u < 16 then [hexd u] else hexD (u / 16) ++ [hexd (u % 16)]
termination_by u
decreasing_by omega

theorem hexD_len : ∀ (m n : Nat), n < 16 ^ (m + 1) → (hexD n).length ≤ m + 1
  | 0, n, h => by rw [hexD, if_pos (by simpa using h)]; simp
  | m + 1, n, h => by
    rw [hexD]
    split
    · simp
    · have h2 : n / 16 < 16 ^ (m + 1) := by rw [Nat.pow_succ] at h; omega
      have := hexD_len m (n / 16) h2
      simp; omega
/-- The digits ahead of the last one. -/
def hexPre (k : Nat) : List UInt8 := if k < 16 then [] else hexD (k / 16)
theorem hexPre_last (k : Nat) : hexD k = hexPre k ++ [hexd (k % 16)] := by
  rw [hexD]
  unfold hexPre
  split
  · next h => rw [Nat.mod_eq_of_lt h]; rfl
  · rfl

set_option maxRecDepth 100000 in
set_option maxHeartbeats 2000000 in
theorem refAddress (n : Nat) (hn : n < 18446744073709551616) : Calls Tryd.prog 25 #[.int .u64 n] w (Pur w ((Value.string ⟨List.toArray ([48, 120] ++ hexD n)⟩))) := by
  have hlen : (hexD n).length ≤ 16 := hexD_len 15 n hn
  go_enter Tryd.func25, Tryd.ntmps25
  go_wp2_with fail
  refine (refHex (n % 16) (by omega)).mono ?_
  rintro e w1 ⟨rfl, hb⟩
  go_wp2
  go_loopw [0, 3] (fun i s wr => ∃ (k : Nat) (l : List UInt8), k ≤ n ∧ l.length ≤ 16 ∧ i = .int .u64 (k : Nat) ∧ s = (Value.string ⟨List.toArray (l)⟩) ∧ Hid (hexD n = hexPre k ++ l) ∧ Below w.heap.size w wr) (fun i _ _ => (intOf i).toNat)
  case atStart => exact ⟨n, [hexd (n % 16)], by omega, by simp, rfl, rfl, Lib.hid (hexPre_last n), hb⟩
  case round =>
    obtain ⟨k, l, hk, hl, rfl, rfl, HL, hb2⟩ := hrel
    by_cases h9 : 15 < k
    · have ch := fun w1 : World => refHex (w := w1) (k / 16 % 16) (by omega)
      have hpre : hexPre k = hexPre (k / 16) ++ [hexd (k / 16 % 16)] := by
        rw [← hexPre_last]
        unfold hexPre
        rw [if_neg (by omega)]
      have hl2 : (hexd (k / 16 % 16) :: l).length ≤ 16 := by
        have h1 := congrArg List.length HL.out
        rw [hpre] at h1
        simp at h1 ⊢
        omega
      have HP := Lib.hid hpre
      have CH := Lib.hid ch
      clear ch hpre
      generalize hexd (k / 16 % 16) = c at *
      go_wp2_with fail
      refine (CH.out _).mono ?_
      rintro e w2 ⟨rfl, hb3⟩
      go_wp2
      go_roundw
      case rel =>
        refine ⟨k / 16, c :: l, by omega, hl2, by congr 1, ?_, Lib.hid ?_, hb2.trans (hb3.mono hb2.size)⟩
        · exact congrArg Value.string (bapp [c] l)
        · rw [HL.out, HP.out]; simp
      case measure => simp [intOf]; omega
    · have he : hexD n = l := by
        rw [HL.out]; unfold hexPre; rw [if_pos (by omega)]; rfl
      have HE := Lib.hid he
      clear HL he
      go_wp2
      go_ret
      rw [HE.out]
      exact ⟨congrArg (fun x => Ending.returned (Value.string x)) (bapp [48, 120] l), hb2⟩
end
end Go.Proofs.YtiidfgomfmfaoaaDoor
