/-
  Package heap: place, read.
-/
import Derived.Test.YtjbphdjheklhbaaHp2
namespace Go.Proofs.Ytjbphdjheklhbaa
open Go.RowKit

/-- A block: where it begins in the heap, its bytes, whether it is used. -/
structure BlkS where
  o : Nat
  size : Nat
  used : Bool
def BlkS.val (base : Nat) (b : BlkS) : Value := .agg #[.int .u64 ((base + b.o + 8 : Nat) : Int), .int .i64 b.size, .bool b.used]
def blkZ : Value := .agg #[.int .u64 0, .int .i64 0, .bool false]
def hdW (M : List Pg) (a : Nat) : Nat := unle (rdb M a 8)
/-- The block at a place, or why it can't be read. -/
def rdBlk (M : List Pg) (base size o : Nat) : Except Nat BlkS :=
  if chk M (base + o) 8 1 ≠ 0 then .error (chk M (base + o) 8 1) else
  if hdW M (base + o) - hdW M (base + o) % 2 < 16 ∨ (hdW M (base + o) - hdW M (base + o) % 2) % 16 ≠ 0 ∨ size - o < hdW M (base + o) - hdW M (base + o) % 2 then .error 3
  else .ok ⟨o, hdW M (base + o) - hdW M (base + o) % 2, decide (hdW M (base + o) % 2 = 1)⟩
def rdVal (base : Nat) : Except Nat BlkS → Value
  | .ok b => .tuple #[b.val base, .int .i64 0]
  | .error E => .tuple #[blkZ, .int .i64 E]
theorem hdW_lt (M : List Pg) (a : Nat) : hdW M a < 18446744073709551616 := by
  have := unle_lt (rdb M a 8)
  rw [rdb_length] at this
  exact this
theorem andNot_one (a : Nat) (ha : a < 18446744073709551616) : bits BinOp.andNot IntKind.u64 (a : Int) 1 = ((a - a % 2 : Nat) : Int) := by
  have h := u64_andNot_nat a 1 ha (by decide)
  have h2 : bits BinOp.andNot IntKind.u64 (a : Int) 1 = ((a &&& (18446744073709551615 - 1) : Nat) : Int) := h
  rw [h2]
  congr 1
  have e1 : a - a % 2 = (a >>> 1) <<< 1 := by
    rw [Nat.shiftRight_eq_div_pow, Nat.shiftLeft_eq]; omega
  rw [e1]
  apply Nat.eq_of_testBit_eq
  intro i
  rw [Nat.testBit_and, Nat.testBit_shiftLeft, Nat.testBit_shiftRight]
  by_cases hi : i = 0
  · subst hi; simp
  · by_cases h64 : i < 64
    · have : (18446744073709551615 - 1).testBit i = true := by
        rw [show 18446744073709551615 - 1 = (2 ^ 63 - 1) <<< 1 by decide, Nat.testBit_shiftLeft, Nat.testBit_two_pow_sub_one]
        simp; omega
      rw [this, show 1 + (i - 1) = i by omega]
      simp; omega
    · have : a.testBit i = false := Nat.testBit_lt_two_pow (Nat.lt_of_lt_of_le ha (by
        calc 18446744073709551616 = 2 ^ 64 := rfl
          _ ≤ 2 ^ i := Nat.pow_le_pow_right (by omega) (by omega)))
      rw [this, show 1 + (i - 1) = i by omega, this]
      simp

section
variable {e : Env} {w : World} {R : List HP} {m : Nat} {M : List Pg}
set_option maxRecDepth 100000 in
theorem hpPlace {h base size : Nat} (b : BlkS) (hb : base + b.o + 8 < 18446744073709551616) (ho : b.o ≤ 65536) (H : Holds e w (pts h (hpObj m base size) :: R)) :
    Calls Try.prog 48 #[.pointer (some ⟨h, 0, none⟩), b.val base] w (Ret e (.int .i64 b.o) (pts h (hpObj m base size) :: R)) := by
  obtain ⟨o, s, u⟩ := b
  dsimp only at *
  have H1 := H.alloc (.cells #[.int .u64 ((base + o + 8 : Nat) : Int), .int .i64 s, .bool u] 53)
  obtain ⟨t, ht⟩ : ∃ t, base + o + 8 = t := ⟨_, rfl⟩
  have e1 : IntKind.u64.wrap ((t : Int) - 8) = ((base + o : Nat) : Int) := by rw [IntKind.wrap_u64]; omega
  obtain ⟨t2, ht2⟩ : ∃ t2, base + o = t2 := ⟨_, rfl⟩
  rw [ht2] at e1
  have e2 : (t : Int) - 8 = t2 := by omega
  have e3 : (t2 : Int) - base = o := by omega
  unfold BlkS.val
  dsimp only
  rw [ht] at H1 ⊢
  obtain ⟨I, Wf, hI, hW, hWs⟩ := worlds_of H1
  have k1 := H1.swap.cells 1
  unfold hpObj at H1
  clear ht ht2
  go_enter Try.func48, Try.ntmps48
  go_wp2_with fail
  go_quiet (fail)
  go_wp2_with fail
  go_ret
  exact ⟨rfl, H1.drop.drewN _⟩

set_option maxRecDepth 100000 in
set_option maxHeartbeats 2000000 in
theorem hpRead {h base size : Nat} (hb : base + 65544 < 18446744073709551616) (hsz : size ≤ 65536) (o : Nat) (ho : o < size) (H : Holds e w (pts h (hpObj m base size) :: modH m M :: R)) :
    Calls Try.prog 51 #[.pointer (some ⟨h, 0, none⟩), .int .i64 o] w
      (Ret e (rdVal base (rdBlk M base size o)) (pts h (hpObj m base size) :: modH m M :: R)) := by
  have H1 := H.alloc (.cells #[.int .u64 0, .int .i64 0, .bool false] 53)
  obtain ⟨bx, hbx⟩ : ∃ bx, w.heap.size = bx := ⟨_, rfl⟩
  rw [hbx] at H1
  have HS : Hid (∀ w' X, Holds e w' (pts bx (.cells #[.int .u64 0, .int .i64 0, .bool false] 53) :: pts h (hpObj m base size) :: modH m M :: X) → Calls Try.prog 131 #[.agg #[.pointer (some ⟨m, 0, none⟩)], .int .u64 ((base + o : Nat) : Int), .int .i64 8] w'
      (RetEx e (fun d : Value => .tuple #[d, .int .i64 (chk M (base + o) 8 1)]) (fun d => pts h (hpObj m base size) :: bts d (rdE M (base + o) 8 1) :: pts bx (.cells #[.int .u64 0, .int .i64 0, .bool false] 53) :: modH m M :: X))) := Lib.hid fun w' X h' =>
    (flatLoad (m := m) (M := M) (a := base + o) (by omega) 8 (by omega) (by omega) (h'.re 3 [2, 0, 1])).mono fun en w'' ⟨d, h1, h2⟩ => ⟨d, h1, h2.re 4 [3, 0, 2, 1]⟩
  have hme : ∀ (w : World), (method 303 110 (.agg #[.pointer (some ⟨m, 0, none⟩)]) "Load").run Try.prog w = .ok (131, .agg #[.pointer (some ⟨m, 0, none⟩)]) w := fun w => by kernel_rfl
  have HK : Hid (∀ w' X, Holds e w' (pts h (hpObj m base size) :: X) → w'.cell? ⟨h, 0, none⟩ = some (memV m) ∧ w'.cell? ⟨h, 1, none⟩ = some (.int .u64 base) ∧ w'.cell? ⟨h, 2, none⟩ = some (.int .i64 size)) := Lib.hid fun w' X h' => ⟨h'.cells 0, h'.cells 1, h'.cells 2⟩
  unfold memV at HK
  have e1 : (base : Int) + (o : Int) = ((base + o : Nat) : Int) := by omega
  obtain ⟨ba, hba⟩ : ∃ ba, base + o = ba := ⟨_, rfl⟩
  have hba64 : ba + 8 < 18446744073709551616 := by omega
  rw [hba] at HS e1
  have ew1 : IntKind.u64.wrap (o : Int) = o := by rw [IntKind.wrap_u64]; omega
  have ew3 : IntKind.u64.wrap (ba : Int) = ba := by rw [IntKind.wrap_u64]; omega
  have ew2 : IntKind.u64.wrap ((base : Int) + (o : Int)) = ba := by rw [IntKind.wrap_u64]; omega
  by_cases hE : chk M ba 8 1 = 0
  · have hT : rdE M ba 8 1 = rdb M ba 8 := by unfold rdE; rw [if_pos hE]; rfl
    rw [hT, hE] at HS
    have hlt := hdW_lt M ba
    have hrl := rdb_length M ba 8
    have hun : unle ((rdb M ba 8).take 8) = hdW M ba := by unfold hdW; rw [List.take_of_length_le (by omega)]
    have hval : rdBlk M base size o = if hdW M ba - hdW M ba % 2 < 16 ∨ (hdW M ba - hdW M ba % 2) % 16 ≠ 0 ∨ size - o < hdW M ba - hdW M ba % 2 then .error 3 else .ok ⟨o, hdW M ba - hdW M ba % 2, decide (hdW M ba % 2 = 1)⟩ := by
      unfold rdBlk; rw [hba, if_neg (fun h => h hE)]
    generalize hdW M ba = W at *
    have hG : Hid (∀ w' d X, Holds e w' (pts h (hpObj m base size) :: bts d (rdb M ba 8) :: X) → Calls Try.prog 67 #[d, .int .i64 0, .int .i64 8] w' (Ret e (.tuple #[.int .u64 W, .bool true]) (pts h (hpObj m base size) :: bts d (rdb M ba 8) :: X))) := Lib.hid fun w' d X h' => by
      have := numGet_any h' 8 (by omega) (by omega) (rdb M ba 8) 0 (by omega) (by omega) d (fun w'' g => bts.reads g.drop)
      rw [List.drop_zero, hun] at this
      exact this
    have e5 := andNot_one W hlt
    have e7 : bits BinOp.and IntKind.u64 (W : Int) 1 = ((W % 2 : Nat) : Int) := u64_and_mod W 1 1 hlt (by decide) (by decide)
    obtain ⟨s, hs⟩ : ∃ s, W - W % 2 = s := ⟨_, rfl⟩
    rw [hs] at e5 hval
    have hs64 : s < 18446744073709551616 := by omega
    obtain ⟨z, hz⟩ : ∃ z, size - o = z := ⟨_, rfl⟩
    rw [hz] at hval
    have hz2 : (size : Int) - (o : Int) = (z : Int) := by omega
    have hzb : z ≤ 65536 := by omega
    have ez : IntKind.u64.wrap (z : Int) = z := by rw [IntKind.wrap_u64]; omega
    obtain ⟨k0, k1, k2⟩ := HK.out _ _ H1.swap
    clear hT hun hrl hs hz
    by_cases b1 : s < 16
    · rw [if_pos (.inl b1)] at hval
      rw [hval]
      unfold rdVal blkZ
      dsimp only
      have d1 : decide ((s : Int) < 16) = true := by simp; omega
      have d1' : decide (s < 16) = true := by simp; omega
      clear hval hE
      go_enter Try.func51, Try.ntmps51
      go_wp2_with fail
      go_region_held3 (fun w' => w'.cell? ⟨h, 0, none⟩ = some (.iface 110 (.agg #[.pointer (some ⟨m, 0, none⟩)])) ∧ w'.cell? ⟨h, 1, none⟩ = some (.int .u64 base) ∧ w'.cell? ⟨h, 2, none⟩ = some (.int .i64 size))
        (first | exact HK.out _ _ (by assumption) | exact HK.out _ _ (Holds.swap (Holds.drew H1)))
        (first
          | (go_at_call 131; refine (HS.out _ _ (by first | assumption | exact Holds.drew H1)).mono ?_; rintro e w4 ⟨d, rfl, HN⟩))
      clear HS
      go_wp2_with fail
      refine (hG.out _ _ _ HN).mono ?_
      rintro en w5 ⟨rfl, HN5⟩
      clear HN
      rename_i w4
      have H5 : Holds e w5 (pts bx (.cells #[.int .u64 0, .int .i64 0, .bool false] 53) :: pts h (hpObj m base size) :: modH m M :: R) := HN5.re 4 [2, 0, 3]
      clear HN5
      have c5 := H5.cells
      have f5 := H5.frozen
      have c6 := H5.swap.cells
      have H6 := ((H5.set 0 (.int .u64 0)).set 1 (.int .i64 0)).set 2 (.bool false)
      have HH := Lib.hid H6
      clear H6 H5
      go_wp2_with fail
      refine bodyPost_at HH.out fun w9 H9 => ?_
      have hc9 := H9.cells
      exact bodyPost_ret (v := .tuple #[.agg #[.int .u64 0, .int .i64 0, .bool false], .int .i64 3]) (by simp [results, Try.results51, go_sem, hc9]) rfl ⟨rfl, H9.drop⟩
    · have d1 : decide ((s : Int) < 16) = false := by simp; omega
      by_cases b2 : s % 16 = 0
      · have d2 : ((s : Int) % 16 != 0) = false := by simp; omega
        by_cases b3 : z < s
        · rw [if_pos (.inr (.inr b3))] at hval
          rw [hval]
          unfold rdVal blkZ
          dsimp only
          have d3 : decide ((z : Int) < (s : Int)) = true := by simp; omega
          clear hval hE
          go_enter Try.func51, Try.ntmps51
          go_wp2_with fail
          go_region_held3 (fun w' => w'.cell? ⟨h, 0, none⟩ = some (.iface 110 (.agg #[.pointer (some ⟨m, 0, none⟩)])) ∧ w'.cell? ⟨h, 1, none⟩ = some (.int .u64 base) ∧ w'.cell? ⟨h, 2, none⟩ = some (.int .i64 size))
            (first | exact HK.out _ _ (by assumption) | exact HK.out _ _ (Holds.swap (Holds.drew H1)))
            (first
              | (go_at_call 131; refine (HS.out _ _ (by first | assumption | exact Holds.drew H1)).mono ?_; rintro e w4 ⟨d, rfl, HN⟩))
          clear HS
          go_wp2_with fail
          refine (hG.out _ _ _ HN).mono ?_
          rintro en w5 ⟨rfl, HN5⟩
          clear HN
          rename_i w4
          have H5 : Holds e w5 (pts bx (.cells #[.int .u64 0, .int .i64 0, .bool false] 53) :: pts h (hpObj m base size) :: modH m M :: R) := HN5.re 4 [2, 0, 3]
          clear HN5
          have c5 := H5.cells
          have f5 := H5.frozen
          have c6 := H5.swap.cells
          have H6 := ((H5.set 0 (.int .u64 0)).set 1 (.int .i64 0)).set 2 (.bool false)
          have HH := Lib.hid H6
          clear H6 H5
          go_wp2_with fail
          refine bodyPost_at HH.out fun w9 H9 => ?_
          have hc9 := H9.cells
          exact bodyPost_ret (v := .tuple #[.agg #[.int .u64 0, .int .i64 0, .bool false], .int .i64 3]) (by simp [results, Try.results51, go_sem, hc9]) rfl ⟨rfl, H9.drop⟩
        · rw [if_neg (by omega)] at hval
          rw [hval]
          unfold rdVal BlkS.val
          dsimp only
          have d3 : decide ((z : Int) < (s : Int)) = false := by simp; omega
          have d4 : (((W % 2 : Nat) : Int) == 1) = decide (W % 2 = 1) := by rw [Bool.eq_iff_iff]; simp; omega
          have e8 : (ba : Int) + 8 = ((ba + 8 : Nat) : Int) := by omega
          rw [hba]
          obtain ⟨b8, hb8⟩ : ∃ b8, ba + 8 = b8 := ⟨_, rfl⟩
          rw [hb8] at e8 hba64 ⊢
          generalize decide (W % 2 = 1) = us at *
          generalize W % 2 = W2 at *
          clear hval hE
          go_enter Try.func51, Try.ntmps51
          go_wp2_with fail
          go_region_held3 (fun w' => w'.cell? ⟨h, 0, none⟩ = some (.iface 110 (.agg #[.pointer (some ⟨m, 0, none⟩)])) ∧ w'.cell? ⟨h, 1, none⟩ = some (.int .u64 base) ∧ w'.cell? ⟨h, 2, none⟩ = some (.int .i64 size))
            (first | exact HK.out _ _ (by assumption) | exact HK.out _ _ (Holds.swap (Holds.drew H1)))
            (first
              | (go_at_call 131; refine (HS.out _ _ (by first | assumption | exact Holds.drew H1)).mono ?_; rintro e w4 ⟨d, rfl, HN⟩))
          clear HS
          go_wp2_with fail
          refine (hG.out _ _ _ HN).mono ?_
          rintro en w5 ⟨rfl, HN5⟩
          clear HN
          rename_i w4
          have H5 : Holds e w5 (pts bx (.cells #[.int .u64 0, .int .i64 0, .bool false] 53) :: pts h (hpObj m base size) :: modH m M :: R) := HN5.re 4 [2, 0, 3]
          clear HN5
          have c5 := H5.cells
          have f5 := H5.frozen
          have c6 := H5.swap.cells
          have H6 := ((H5.set 0 (.int .u64 (b8 : Int))).set 1 (.int .i64 (s : Int))).set 2 (.bool us)
          have HH := Lib.hid H6
          clear H6 H5
          go_wp2_with fail
          refine bodyPost_at HH.out fun w9 H9 => ?_
          have hc9 := H9.cells
          exact bodyPost_ret (v := .tuple #[.agg #[.int .u64 (b8 : Int), .int .i64 (s : Int), .bool us], .int .i64 0]) (by simp [results, Try.results51, go_sem, hc9]) rfl ⟨rfl, H9.drop⟩
      · rw [if_pos (.inr (.inl b2))] at hval
        rw [hval]
        unfold rdVal blkZ
        dsimp only
        have d2 : ((s : Int) % 16 != 0) = true := by simp; omega
        clear hval hE
        go_enter Try.func51, Try.ntmps51
        go_wp2_with fail
        go_region_held3 (fun w' => w'.cell? ⟨h, 0, none⟩ = some (.iface 110 (.agg #[.pointer (some ⟨m, 0, none⟩)])) ∧ w'.cell? ⟨h, 1, none⟩ = some (.int .u64 base) ∧ w'.cell? ⟨h, 2, none⟩ = some (.int .i64 size))
          (first | exact HK.out _ _ (by assumption) | exact HK.out _ _ (Holds.swap (Holds.drew H1)))
          (first
            | (go_at_call 131; refine (HS.out _ _ (by first | assumption | exact Holds.drew H1)).mono ?_; rintro e w4 ⟨d, rfl, HN⟩))
        clear HS
        go_wp2_with fail
        refine (hG.out _ _ _ HN).mono ?_
        rintro en w5 ⟨rfl, HN5⟩
        clear HN
        rename_i w4
        have H5 : Holds e w5 (pts bx (.cells #[.int .u64 0, .int .i64 0, .bool false] 53) :: pts h (hpObj m base size) :: modH m M :: R) := HN5.re 4 [2, 0, 3]
        clear HN5
        have c5 := H5.cells
        have f5 := H5.frozen
        have c6 := H5.swap.cells
        have H6 := ((H5.set 0 (.int .u64 0)).set 1 (.int .i64 0)).set 2 (.bool false)
        have HH := Lib.hid H6
        clear H6 H5
        go_wp2_with fail
        refine bodyPost_at HH.out fun w9 H9 => ?_
        have hc9 := H9.cells
        exact bodyPost_ret (v := .tuple #[.agg #[.int .u64 0, .int .i64 0, .bool false], .int .i64 3]) (by simp [results, Try.results51, go_sem, hc9]) rfl ⟨rfl, H9.drop⟩
  · have HR : Hid (rdBlk M base size o = .error (chk M ba 8 1)) := Lib.hid (by unfold rdBlk; rw [hba, if_pos hE])
    rw [show rdVal base (rdBlk M base size o) = rdVal base (.error (chk M ba 8 1)) by rw [HR.out]]
    unfold rdVal blkZ
    dsimp only
    generalize chk M ba 8 1 = E at *
    have hEb : ((E : Int) != 0) = true := by simp; omega
    obtain ⟨k0, k1, k2⟩ := HK.out _ _ H1.swap
    clear hE HR
    go_enter Try.func51, Try.ntmps51
    go_wp2_with fail
    go_region_held3 (fun w' => w'.cell? ⟨h, 0, none⟩ = some (.iface 110 (.agg #[.pointer (some ⟨m, 0, none⟩)])) ∧ w'.cell? ⟨h, 1, none⟩ = some (.int .u64 base) ∧ w'.cell? ⟨h, 2, none⟩ = some (.int .i64 size))
      (first | exact HK.out _ _ (by assumption) | exact HK.out _ _ (Holds.swap (Holds.drew H1)))
      (first
        | (go_at_call 131; refine (HS.out _ _ (by first | assumption | exact Holds.drew H1)).mono ?_; rintro e w4 ⟨d, rfl, HN⟩))
    clear HS
    have H5 : Holds e w4 (pts bx (.cells #[.int .u64 0, .int .i64 0, .bool false] 53) :: pts h (hpObj m base size) :: modH m M :: R) := HN.re 4 [2, 0, 3]
    clear HN
    have c5 := H5.cells
    have f5 := H5.frozen
    have c6 := H5.swap.cells
    have H6 := ((H5.set 0 (.int .u64 0)).set 1 (.int .i64 0)).set 2 (.bool false)
    have HH := Lib.hid H6
    clear H6 H5
    go_wp2_with fail
    refine bodyPost_at HH.out fun w9 H9 => ?_
    have hc9 := H9.cells
    exact bodyPost_ret (v := .tuple #[.agg #[.int .u64 0, .int .i64 0, .bool false], .int .i64 E]) (by simp [results, Try.results51, go_sem, hc9]) rfl ⟨rfl, H9.drop⟩
end
end Go.Proofs.Ytjbphdjheklhbaa
