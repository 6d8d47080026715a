/-
  Text: the builder; bytes' word.
-/
import Derived.Test.YtiidfgomfmfaoaaDoorT6
namespace Go.Proofs.YtiidfgomfmfaoaaDoor
open Go.RowKit Go.Shelf

def r167 : Go.Shelf.Ren := ⟨fun | 167 => 32 | 240 => 44 | 276 => 50 | n => n, fun | 9 => 9 | 4 => 4 | 0 => 0 | 20 => 20 | 72 => 59 | 76 => 62 | 70 => 57 | 37 => 36 | 75 => 61 | 164 => 80 | 5 => 5 | 80 => 66 | n => n, fun | n => n⟩
theorem lays167 : Lays.n167 Tryd.prog r167 := {
  mixed := by kernel_rfl
  f167 := Tryd.func32.trans (congrArg some (by kernel_rfl))
  f240 := Tryd.func44.trans (congrArg some (by kernel_rfl))
  f276 := Tryd.func50.trans (congrArg some (by kernel_rfl))
  t0 := Tryd.underlying0
  a0 := Tryd.isAgg0
  z0 := Tryd.sizeOf0
  v0 := Tryd.zeroValue0
  t4 := Tryd.underlying4
  a4 := Tryd.isAgg4
  z4 := Tryd.sizeOf4
  v4 := Tryd.zeroValue4
  t5 := Tryd.underlying5
  a5 := Tryd.isAgg5
  z5 := Tryd.sizeOf5
  v5 := Tryd.zeroValue5
  t9 := Tryd.underlying9
  a9 := Tryd.isAgg9
  z9 := Tryd.sizeOf9
  v9 := Tryd.zeroValue9
  t20 := Tryd.underlying20
  a20 := Tryd.isAgg20
  z20 := Tryd.sizeOf20
  v20 := Tryd.zeroValue20
  t37 := Tryd.underlying36
  a37 := Tryd.isAgg36
  z37 := Tryd.sizeOf36
  v37 := Tryd.zeroValue36
  t70 := Tryd.underlying57
  a70 := Tryd.isAgg57
  z70 := Tryd.sizeOf57
  v70 := Tryd.zeroValue57
  t72 := Tryd.underlying59
  a72 := Tryd.isAgg59
  z72 := Tryd.sizeOf59
  v72 := Tryd.zeroValue59
  t75 := Tryd.underlying61
  a75 := Tryd.isAgg61
  z75 := Tryd.sizeOf61
  v75 := Tryd.zeroValue61
  t164 := Tryd.underlying80
  a164 := Tryd.isAgg80
  z164 := Tryd.sizeOf80
  v164 := Tryd.zeroValue80 }
theorem extra167 : Builder.Extra Tryd.prog r167 := {
  sizeBuilder := by kernel_rfl
  liesBuilder := by kernel_rfl
  t5 := Tryd.underlying5
  a5 := Tryd.isAgg5
  z5 := Tryd.sizeOf5
  v5 := Tryd.zeroValue5
  infoByte := by kernel_rfl
  cellsByte := by kernel_rfl
  sizeByte := by kernel_rfl
  neB5 := by decide }
theorem bWriteByte (B b : Nat) (bs : List Value) (c : Int) (w : World) (h : Lib.IsBuilder 59 5 B b bs w) (hlen : bs.length + 1 ≤ 140737488355328) (hBw : B ≤ w.heap.size) :
    Calls Tryd.prog 32 #[.pointer (some ⟨b, 0, none⟩), .int .u8 c] w fun e w' => e = .returned .nilIface ∧ (Lib.BuilderAt 59 5 B b (.pointer (some ⟨b, 0, none⟩)) (bs ++ [.int .u8 c]) w' ∧ Below B w w') :=
  Any.Builder_WriteByte lays167 extra167 B b bs c w h hlen hBw
theorem bWriteString (B b : Nat) (bs : List Value) (s : ByteArray) (w : World) (h : Lib.IsBuilder 59 5 B b bs w) (hlen : bs.length + s.size ≤ 140737488355328) (hBw : B ≤ w.heap.size) :
    Calls Tryd.prog 31 #[.pointer (some ⟨b, 0, none⟩), .string s] w fun e w' => e = .returned (.tuple #[.int .i64 s.size, .nilIface]) ∧ (Lib.BuilderAt 59 5 B b (.pointer (some ⟨b, 0, none⟩)) (bs ++ Lib.strCells s) w' ∧ Below B w w') :=
  Any.Builder_WriteString { Tryd.lays156 with } Tryd.Builder_Extra_156 B b bs s w h hlen hBw

section
variable {w : World}
theorem idx16 (k : Nat) (h : k < 16) (kk : IntKind) (z : Int) (hz : z = (k : Int)) (c : UInt8) (hc : hexd k = c) (W : World) : (Instr.index 9 (.string ⟨#[48, 49, 50, 51, 52, 53, 54, 55, 56, 57, 97, 98, 99, 100, 101, 102]⟩) (.int kk z)).run Tryd.prog W = .ok (.int .u8 (c.toNat : Int)) W := by
  have hx : (⟨#[48, 49, 50, 51, 52, 53, 54, 55, 56, 57, 97, 98, 99, 100, 101, 102]⟩ : ByteArray)[k]? = some (hexd k) := by
    have : ∀ k : Fin 16, (⟨#[48, 49, 50, 51, 52, 53, 54, 55, 56, 57, 97, 98, 99, 100, 101, 102]⟩ : ByteArray)[(k : Nat)]? = some (hexd k) := by decide
    exact this ⟨k, h⟩
  rw [hc] at hx
  subst hz
  generalize (⟨#[48, 49, 50, 51, 52, 53, 54, 55, 56, 57, 97, 98, 99, 100, 101, 102]⟩ : ByteArray) = tab at *
  simp [Instr.index, asIntOf, run_underlying Tryd.underlying9]
  rw [hx]
  simp

set_option maxRecDepth 100000 in
set_option maxHeartbeats 2000000 in
theorem bytes_any (ad : Option Addr) (n c : Nat) (l : List UInt8) (hl : l.length = n) (hn : n ≤ 1000) (hc : ∀ k (hk : k < l.length), ∃ b o, ad = some ⟨b, o, none⟩ ∧ w.cell? ⟨b, o + k, none⟩ = some (.int .u8 (l[k].toNat : Int))) :
    Calls Tryd.prog 15 #[.slice ad n c] w (Pur w ((Value.string ⟨List.toArray (bytesL l)⟩))) := by
  have hB0 : Lib.IsBuilder 59 5 w.heap.size w.heap.size [] (w.alloc (.cells #[.pointer none, .slice none 0 0] 59)) :=
    .inl ⟨Nat.le_refl _, .slice none 0 0, heap_alloc_new w _, ⟨rfl, .inl ⟨rfl, rfl⟩⟩, by simp [Value.ownBlock]⟩
  have hW := (Below.refl _ w).alloc (Nat.le_refl _) (.cells #[.pointer none, .slice none 0 0] 59)
  go_enter Tryd.func15, Tryd.ntmps15
  go_wp2_with fail
  refine (bWriteString w.heap.size w.heap.size [] ⟨#[61]⟩ _ hB0 (by decide) (by simp)).mono ?_
  rintro e w1 ⟨rfl, hB1, hb1⟩
  have hb1' := hW.trans hb1
  have hB1' : Lib.BuilderAt 59 5 w.heap.size w.heap.size (.pointer (some ⟨w.heap.size, 0, none⟩)) (Lib.byteCells (bytesL (l.take 0))) w1 := hB1
  obtain ⟨B, hB⟩ : ∃ B, w.heap.size = B := ⟨_, rfl⟩
  have HBX := Lib.hid hB
  rw [hB] at hB1' hb1'
  have hcb : ∀ w' : World, Below B w w' → ∀ k (hk : k < l.length), ∃ b o, ad = some ⟨b, o, none⟩ ∧ w'.cell? ⟨b, o + k, none⟩ = some (.int .u8 (l[k].toNat : Int)) := fun w' hb k hk => by
    obtain ⟨b, o, h1, h2⟩ := hc k hk
    refine ⟨b, o, h1, ?_⟩
    rw [← h2]
    exact hb.cell (p := ⟨b, o + k, none⟩) (by rw [← hB]; exact World.block_lt_of_cell? _ _ h2)
  have HC := Lib.hid hcb
  clear hB0 hW hB1 hb1 hcb hc
  go_wp2
  clear hB
  go_loopw [9] (fun i wr => ∃ k : Nat, k ≤ n ∧ i = .int .i64 (k : Nat) ∧ Hid (Lib.BuilderAt 59 5 B B (.pointer (some ⟨B, 0, none⟩)) (Lib.byteCells (bytesL (l.take k))) wr) ∧ Hid (Below B w wr)) (fun i _ => n - (intOf i).toNat)
  case atStart => exact ⟨0, by omega, rfl, Lib.hid hB1', Lib.hid hb1'⟩
  case round =>
    clear hB1' hb1'
    obtain ⟨k, hk, rfl, hBu, hb⟩ := hrel
    have hBw : B ≤ wr.heap.size := by have := hb.out.size; rw [← HBX.out]; exact this
    by_cases hlt : k < n
    · obtain ⟨b, o, rfl, hcc⟩ := HC.out _ hb.out k (by omega)
      have hs := bytesL_succ l k (by omega)
      have hbl := bytesL_len (l.take k)
      rw [List.length_take] at hbl
      have hc16 : l[k].toNat < 256 := UInt8.toNat_lt _
      generalize l[k].toNat = x at *
      have HS := Lib.hid hs
      clear hs
      generalize bytesL (l.take k) = t at *
      have ht : t.length ≤ 100000 := by omega
      have hi1 := idx16 (x / 16) (by omega) .u8 ((x : Int) / 16) (by omega) _ rfl
      have ha : bits BinOp.and IntKind.u8 (x : Int) 15 = (x : Int) % 16 := u8_and15 _ (by omega) (by omega)
      have hi2 := idx16 (x % 16) (by omega) .u8 ((x : Int) % 16) (by omega) _ rfl
      generalize hexd (x / 16) = d1 at *
      generalize hexd (x % 16) = d2 at *
      have c1 := bWriteByte B B _ (d1.toNat : Int) wr (.inr hBu.out) (by rw [Lib.byteCells_length]; omega) hBw
      go_wp2_with fail
      refine c1.mono ?_
      rintro e w3 ⟨rfl, hB3, hb3⟩
      have c2 := bWriteByte B B _ (d2.toNat : Int) w3 (.inr hB3) (by rw [List.length_append, Lib.byteCells_length]; simp; omega) (Nat.le_trans hBw hb3.size)
      have HB3 := Lib.hid hB3
      have Hb3 := Lib.hid (hb.out.trans hb3)
      clear c1 hB3 hb3
      go_wp2_with fail
      refine c2.mono ?_
      rintro e w4 ⟨rfl, hB4, hb4⟩
      have Hb4 := Lib.hid (Hb3.out.trans hb4)
      have hB5 : Lib.BuilderAt 59 5 B B (.pointer (some ⟨B, 0, none⟩)) (Lib.byteCells (t ++ [d1, d2])) w4 := by
        have : Lib.byteCells (t ++ [d1, d2]) = (Lib.byteCells t ++ [.int .u8 (d1.toNat : Int)]) ++ [.int .u8 (d2.toNat : Int)] := by simp [Lib.byteCells]
        rw [this]; exact hB4
      have HB5 := Lib.hid hB5
      clear c2 hB4 hb4 hB5
      go_wp2
      go_roundw
      case rel => exact ⟨k + 1, by omega, by go_num, Lib.hid (by rw [HS.out]; exact HB5.out), Hb4⟩
      case measure => simp [intOf]; omega
    · obtain rfl : k = n := by omega
      rw [show l.take k = l from List.take_of_length_le (by omega)] at hBu
      go_wp2_with fail
      refine (Tryd.Builder_String_any B B (bytesL l) wr (.inr hBu.out) hBw).mono ?_
      rintro e w3 ⟨rfl, hb3⟩
      go_wp2
      go_ret
      exact ⟨rfl, by rw [HBX.out]; exact hb.out.trans hb3⟩
end
end Go.Proofs.YtiidfgomfmfaoaaDoor
