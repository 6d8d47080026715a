/-
  Text: the library's hexadecimal digits (strconv.FormatUint at base 16).
-/
import Derived.Test.YtiidfgomfmfaoaaDoorT4
import Derived.Lib.TrailingZeros
namespace Go.Proofs.YtiidfgomfmfaoaaDoor
open Go.RowKit

/-- The library's table for trailing zeros lies in the world. -/
def Brj (w : World) : Prop := Lib.TabIs Tryd.prog w "math/bits.deBruijn64tab" .u8 (Lib.deBruijn64tab.map (fun x : Nat => (x : Int)))
theorem Brj.below {w w' : World} (h : Brj w) (hb : Below w.heap.size w w') : Brj w' := Go.Joins.tab_stays (g := 3) (by kernel_rfl) h hb (Nat.le_refl _)

theorem Holds.ofBelow {en : Env} {w W : World} {A : List HP} (H : Holds en w A) (hb : Below w.heap.size w W) : Holds en W A := by
  refine ⟨hb.os.trans H.os, hb.output.trans H.output, hb.tape.trans H.tape, H.sat.mono fun b o g => ?_⟩
  have h : b < w.heap.size := (Array.getElem?_eq_some_iff.1 g).1
  exact (hb.block b h).trans g

section
variable {w : World}
set_option maxRecDepth 100000 in
theorem tz16 (h : Brj w) : Calls Tryd.prog 66 #[.int .u64 16] w (Pur w (.int .i64 4)) := by
  have hc : w.cell? ⟨3, 15, none⟩ = some (.int .u8 4) := Lib.TabIs.cell h (by kernel_rfl) 15 (by decide)
  have h1 : IntKind.u64.wrap (-16) = 18446744073709551600 := by decide
  have h2 : bits BinOp.and IntKind.u64 16 18446744073709551600 = 16 := by decide
  have h3 : IntKind.u64.wrap (16 * 285870213051353865) = 4573923408821661840 := by decide
  go_enter Tryd.func66, Tryd.ntmps66
  go_wp2
  go_ret
  exact ⟨rfl, Below.refl _ _⟩

theorem tz (h : Brj w) : Calls Tryd.prog 64 #[.int .u64 16] w (Pur w (.int .i64 4)) := by
  go_enter Tryd.func64, Tryd.ntmps64
  go_wp2_with fail
  refine (tz16 h).mono ?_
  rintro e w1 ⟨rfl, hb⟩
  go_wp2
  go_ret
  exact ⟨rfl, hb⟩

theorem hexs36 (k : Nat) (h : k < 16) : (⟨#[48, 49, 50, 51, 52, 53, 54, 55, 56, 57, 97, 98, 99, 100, 101, 102, 103, 104, 105, 106, 107, 108, 109, 110, 111, 112, 113, 114, 115, 116, 117, 118, 119, 120, 121, 122]⟩ : ByteArray)[k]? = some (hexd k) := by
  have : ∀ k : Fin 16, (⟨#[48, 49, 50, 51, 52, 53, 54, 55, 56, 57, 97, 98, 99, 100, 101, 102, 103, 104, 105, 106, 107, 108, 109, 110, 111, 112, 113, 114, 115, 116, 117, 118, 119, 120, 121, 122]⟩ : ByteArray)[(k : Nat)]? = some (hexd k) := by decide
  exact this ⟨k, h⟩

theorem idx36 (k : Nat) (h : k < 16) (z : Int) (hz : z = (k : Int)) (c : UInt8) (hc : hexd k = c) (W : World) : (Instr.index 9 (.string ⟨#[48, 49, 50, 51, 52, 53, 54, 55, 56, 57, 97, 98, 99, 100, 101, 102, 103, 104, 105, 106, 107, 108, 109, 110, 111, 112, 113, 114, 115, 116, 117, 118, 119, 120, 121, 122]⟩) (.int .u64 z)).run Tryd.prog W = .ok (.int .u8 (c.toNat : Int)) W := by
  have hx := hexs36 k h
  rw [hc] at hx
  subst hz
  generalize (⟨#[48, 49, 50, 51, 52, 53, 54, 55, 56, 57, 97, 98, 99, 100, 101, 102, 103, 104, 105, 106, 107, 108, 109, 110, 111, 112, 113, 114, 115, 116, 117, 118, 119, 120, 121, 122]⟩ : ByteArray) = tab at *
  have hk : (if 0 ≤ (k : Int) then tab[(k : Int).toNat]? else none) = some c := by rw [if_pos (by omega), Int.toNat_natCast]; exact hx
  simp [Instr.index, asIntOf, run_underlying Tryd.underlying9]
  rw [hx]
  simp
def u8v (l : List UInt8) : List Value := l.map (fun c => Value.int .u8 (c.toNat : Int))
theorem slice65 (ba j : Nat) (hj : j ≤ 64) (W : World) : (Instr.sliceAt 95 (.pointer (some ⟨ba, 0, none⟩)) (some (.int .i64 (j : Int))) none none).run Tryd.prog W = .ok (.slice (some ⟨ba, j, none⟩) (65 - j) (65 - j)) W := by
  have hal : Tryd.prog.arrayLen 95 = 65 := by kernel_rfl
  have hel : Tryd.prog.elem 95 = 5 := by kernel_rfl
  have hsz : (sizeOf 5).run Tryd.prog W = .ok 1 W := by kernel_rfl
  have h := run_sliceAt_array_l (P := Tryd.prog) W 95 ⟨ba, 0, none⟩ (by rw [hal, hel]; kernel_rfl) .i64 (j : Int) (by omega) (by rw [hal]; omega)
  rw [hal, hel, hsz] at h
  rw [h]
  simp only [Result.andThen, slicedAt, Int.toNat_natCast]
  rw [if_neg (by omega), Nat.mul_one, Addr.add_at, Nat.zero_add]
theorem conv65 {E : Env} {W : World} {A : List HP} {ba j : Nat} {cur : Array Value} {l : List UInt8} (H : Holds E W (pts ba (.cells cur 95 (0, 0)) :: A)) (hd : cur.toList.drop j = u8v l) (hl : l.length = 65 - j) :
    (convert 36 9 (.slice (some ⟨ba, j, none⟩) (65 - j) (65 - j))).run Tryd.prog W = .ok ((Value.string ⟨List.toArray (l)⟩)) W := by
  have h := run_convert_bytes_back (P := Tryd.prog) W 36 9 5 ⟨ba, j, none⟩ (65 - j) l (by kernel_rfl) (by kernel_rfl) (by kernel_rfl) (by
    intro i hi
    rw [Addr.add_at, H.cells]
    have h1 : (cur.toList.drop j)[i]? = some (.int .u8 (l[i].toNat : Int)) := by rw [hd]; simp [u8v, List.getElem?_eq_getElem hi]
    rw [List.getElem?_drop] at h1
    simpa using h1)
  rw [hl] at h
  exact h
theorem pow16 : Calls Tryd.prog 63 #[.int .i64 16] w (Pur w (.bool true)) := by
  have h1 : bits BinOp.and IntKind.i64 16 15 = 0 := by decide
  go_enter Tryd.func63, Tryd.ntmps63
  go_wp2
  go_ret
  exact ⟨rfl, Below.refl _ _⟩

theorem and15 (k : Nat) (hk : k < 18446744073709551616) : bits BinOp.and IntKind.u64 (k : Int) 15 = ((k % 16 : Nat) : Int) := by
  have := bits_and_u64_nat k 15 hk (by decide)
  rw [show ((15 : Nat) : Int) = 15 from rfl] at this
  rw [this, Nat.and_two_pow_sub_one_eq_mod k 4]

set_option maxRecDepth 100000 in
set_option maxHeartbeats 4000000 in
theorem formatBits16 (h : Brj w) (n : Nat) (hn : n < 18446744073709551616) : Calls Tryd.prog 59 #[.slice none 0 0, .int .u64 n, .int .i64 16, .bool false, .bool false] w (Pur w (.tuple #[.slice none 0 0, (Value.string ⟨List.toArray (hexD n)⟩)])) := by
  have H0 := Holds.start w
  generalize hE : (⟨w.os, w.output, w.tape⟩ : Env) = E at *
  have hbel : ∀ w' A, Holds E w' (base w :: A) → Below w.heap.size w w' := fun w' A h => by subst hE; exact h.below rfl rfl rfl
  clear hE
  have hT := Lib.hid fun w' A (hh : Holds E w' (base w :: A)) => h.below (hbel w' A hh)
  have H1 := H0.alloc (.cells Tryd.zeroCells95 95)
  clear h
  go_enter Tryd.func59, Tryd.ntmps59
  go_wp2_with fail
  refine pow16.mono ?_
  rintro e w1 ⟨rfl, hb1⟩
  have H2 := H1.ofBelow hb1
  have hz : Tryd.zeroCells95.size = 65 := by kernel_rfl
  generalize Tryd.zeroCells95 = cz at *
  generalize hba : w.heap.size = ba at *
  have HBX := Lib.hid hba
  clear hba
  go_wp2_with fail
  refine (tz (hT.out _ _ H2.drop)).mono ?_
  rintro e w2 ⟨rfl, hb2⟩
  have H3 := H2.ofBelow hb2
  clear H1 H2 H0 hb1 hb2
  have hlen : (hexD n).length ≤ 16 := hexD_len 15 n hn
  go_wp2
  go_loopw [1, 13] (fun u i wr => ∃ (k j : Nat) (l : List UInt8) (cur : Array Value), k ≤ n ∧ j + 1 + l.length = 65 ∧ l.length ≤ 16 ∧ u = .int .u64 (k : Nat) ∧ i = .int .i64 ((j : Int) + 1) ∧ Hid (hexD n = hexD k ++ l) ∧ cur.size = 65 ∧ Hid (cur.toList.drop (j + 1) = u8v l) ∧ Holds E wr [pts ba (.cells cur 95 (0, 0)), base w]) (fun u _ _ => (intOf u).toNat)
  case atStart => exact ⟨n, 64, [], cz, by omega, by simp, by simp, rfl, rfl, Lib.hid (by simp), hz, Lib.hid (by simp [u8v, ← hz]), H3⟩
  case round =>
    obtain ⟨k, j, l, cur, hk, hj, hl, rfl, rfl, HL, hcs, HC, HH⟩ := hrel
    have hcf := HH.frozen
    have hll := congrArg List.length HL.out
    have hk0 : 1 ≤ (hexD k).length := by rw [hexPre_last]; simp
    rw [List.length_append] at hll
    have hl16 : l.length + 1 ≤ 16 := by omega
    have hj49 : 48 ≤ j := by omega
    have hj64 : j ≤ 64 := by omega
    have ha := and15 k (by omega)
    obtain ⟨v0, hv0⟩ : ∃ v0, cur[j]? = some v0 := ⟨_, Array.getElem?_eq_getElem (by omega)⟩
    have hcj : wr.cell? ⟨ba, j, none⟩ = some v0 := by rw [HH.cells, hv0]
    have hset : ∀ c : UInt8, (cur.setIfInBounds j (.int .u8 (c.toNat : Int))).toList.drop j = u8v (c :: l) := fun c => by
      have h1 := HC.out
      rw [Array.toList_setIfInBounds, List.drop_eq_getElem_cons (by simp; omega)]
      have h2 : (cur.toList.set j (Value.int .u8 (c.toNat : Int)))[j]'(by simp; omega) = Value.int .u8 (c.toNat : Int) := List.getElem_set_self _
      rw [h2, List.drop_set_of_lt (by omega), h1]
      rfl
    by_cases h9 : 16 ≤ k
    · have hpre : hexD k = hexD (k / 16) ++ [hexd (k % 16)] := by rw [hexD, if_neg (by omega)]
      have HP := Lib.hid hpre
      have hsc := hset (hexd (k % 16))
      have H4 := HH.set j (.int .u8 ((hexd (k % 16)).toNat : Int))
      have hix := idx36 (k % 16) (by omega) ((k : Int) % 16) (by omega) _ rfl
      clear hpre hll hk0 hset
      generalize hexd (k % 16) = c at *
      have HSC := Lib.hid hsc
      clear hsc hv0
      go_wp2
      go_roundw
      case rel =>
        refine ⟨k / 16, j - 1, c :: l, _, by omega, by simp; omega, by simp; omega, by congr 1, by congr 1; omega, Lib.hid ?_, ?_, Lib.hid ?_, H4⟩
        · rw [HL.out, HP.out]; simp
        · simp [hcs]
        · rw [show j - 1 + 1 = j by omega]; exact HSC.out
      case measure => simp [intOf]; omega
    · have hmod : k % 16 = k := by omega
      rw [hmod] at ha
      have hone : hexD k = [hexd k] := by rw [hexD, if_pos (by omega)]
      have HO := Lib.hid hone
      have hsc := hset (hexd k)
      have H4 := HH.set j (.int .u8 ((hexd k).toNat : Int))
      have hix := idx36 k (by omega) (k : Int) rfl _ rfl
      have hal : Tryd.prog.arrayLen 95 = 65 := by kernel_rfl
      clear hone hset hll hk0 hmod hv0
      generalize hexd k = c at *
      have hl65 : (c :: l).length = 65 - j := by simp; omega
      have hcv := conv65 H4 hsc hl65
      have hsl := slice65 ba j (by omega)
      rw [show c :: l = hexD n by rw [HL.out, HO.out]; rfl] at hcv
      clear hsc hal
      go_wp2
      go_ret2
      exact ⟨rfl, by rw [HBX.out]; exact hbel _ _ H4.drop⟩

theorem address_any (h : Brj w) (n : Nat) (hn : n < 18446744073709551616) : Calls Tryd.prog 43 #[.int .u64 n] w (Pur w ((Value.string ⟨List.toArray ([48, 120] ++ hexD n)⟩))) := by
  have hlen : (hexD n).length ≤ 16 := hexD_len 15 n hn
  have h1 : Calls Tryd.prog 54 #[.int .u64 n, .int .i64 16] w (Pur w ((Value.string ⟨List.toArray (hexD n)⟩))) := by
    go_enter Tryd.func54, Tryd.ntmps54
    go_wp2_with fail
    refine (formatBits16 h n hn).mono ?_
    rintro e w1 ⟨rfl, hb⟩
    go_wp2
    go_ret
    exact ⟨rfl, hb⟩
  have h2 : Calls Tryd.prog 49 #[.int .u64 n, .int .i64 16] w (Pur w ((Value.string ⟨List.toArray (hexD n)⟩))) := by
    go_enter Tryd.func49, Tryd.ntmps49
    go_wp2_with fail
    refine h1.mono ?_
    rintro e w1 ⟨rfl, hb⟩
    go_wp2
    go_ret
    exact ⟨rfl, hb⟩
  go_enter Tryd.func43, Tryd.ntmps43
  go_wp2_with fail
  refine h2.mono ?_
  rintro e w1 ⟨rfl, hb⟩
  go_wp2
  go_ret
  exact ⟨congrArg (fun x => Ending.returned (Value.string x)) (bapp [48, 120] (hexD n)), hb⟩
end
end Go.Proofs.YtiidfgomfmfaoaaDoor
