/-
  Layer 48: the reference's Put.
-/
import Derived.Test.YtjbphdjheklhbaaCb1
import Derived.Deep.RegionHeld3
namespace Go.Proofs.Ytjbphdjheklhbaa
open Go.RowKit

section
variable {e : Env} {w : World} {R : List HP}
set_option maxRecDepth 100000 in
set_option maxHeartbeats 2000000 in
theorem ref48Put (x : InsS) (hm : mayI x = true) (h0 : -2147483648 ≤ x.imm) (h1 : x.imm ≤ 2147483647) (H : Holds e w R) : Calls Try.prog 26 #[x.val] w (RetEx e (fun v : Value => v) (fun v => bts v (insB x) :: R)) := by
  have CW0 := Lib.hid fun w' X (h' : Holds e w' X) => ref48Wide x h0 h1 h'
  obtain ⟨op, rr, ss, imm⟩ := x
  unfold mayI at hm
  simp only [Bool.and_eq_true, decide_eq_true_eq] at hm
  obtain ⟨⟨⟨⟨⟨m1, m2⟩, m3⟩, m4⟩, m5⟩, m6⟩ := hm
  dsimp only at *
  obtain ⟨op, rfl⟩ : ∃ q : Nat, op = q := ⟨op.toNat, by omega⟩
  obtain ⟨rr, rfl⟩ : ∃ q : Nat, rr = q := ⟨rr.toNat, by omega⟩
  obtain ⟨ss, rfl⟩ : ∃ q : Nat, ss = q := ⟨ss.toNat, by omega⟩
  have o8 : op < 8 := by omega
  have r8 : rr < 4 := by omega
  have s8 : ss < 4 := by omega
  obtain ⟨W, hW⟩ : ∃ W, wideN imm = W := ⟨_, rfl⟩
  have hW64 : W < 18446744073709551616 := hW ▸ wideN_lt imm
  have HBY : Hid (u8v (insB ⟨op, rr, ss, imm⟩) = [.int .u8 op, .int .u8 rr, .int .u8 ss, .int .u8 0] ++ u8v (le 4 W)) := Lib.hid (by
    unfold insB
    dsimp only
    rw [u8v_append]
    have e1 : (UInt8.ofNat op).toNat = op := by rw [UInt8.toNat_ofNat']; omega
    have e2 : (UInt8.ofNat rr).toNat = rr := by rw [UInt8.toNat_ofNat']; omega
    have e3 : (UInt8.ofNat ss).toNat = ss := by rw [UInt8.toNat_ofNat']; omega
    have e4 : le 4 (imm % 4294967296).toNat = le 4 W := by
      rw [← le_mod 4 W]
      congr 1
      rw [← hW]
      unfold wideN
      show _ = _ % 4294967296
      omega
    rw [e4]
    simp [u8v, e1, e2, e3])
  rw [hW] at CW0
  have CP := Lib.hid fun w' X (h' : Holds e w' X) => ref01Put 4 (by omega) W hW64 h'
  obtain ⟨xb, hxb⟩ : ∃ xb, w.heap.size = xb := ⟨_, rfl⟩
  have H1 := H.alloc (.cells #[.int .i64 op, .int .i64 rr, .int .i64 ss, .int .i32 imm] 70)
  rw [hxb] at H1
  have HK : Hid (∀ w' X, Holds e w' (pts xb (.cells #[.int .i64 op, .int .i64 rr, .int .i64 ss, .int .i32 imm] 70 (0, 0)) :: X) → ∀ j, w'.cell? ⟨xb, j, none⟩ = #[Value.int .i64 op, .int .i64 rr, .int .i64 ss, .int .i32 imm][j]?) := Lib.hid fun w' X h' => h'.cells
  unfold InsS.val at CW0 ⊢
  dsimp only at CW0 ⊢
  clear m1 m2 m3 m4 m5 m6 h0 h1 H hW
  go_enter Try.func26, Try.ntmps26
  go_wp2_with fail
  refine code_at H1 fun w2 H2 => ?_
  have hdr := H2.drew
  have kx := HK.out _ _ H2
  have f1 : 4 + 4 ≤ maxLen := by decide
  have f2 : (4 + 4) * 1 ≤ 140737488355328 := by decide
  have hwo : IntKind.u8.wrap (op : Int) = op := by rw [IntKind.wrap_u8']; omega
  have hwr : IntKind.u8.wrap (rr : Int) = rr := by rw [IntKind.wrap_u8']; omega
  have hws : IntKind.u8.wrap (ss : Int) = ss := by rw [IntKind.wrap_u8']; omega
  clear H1
  go_region_held3 (fun w' => ∀ j, w'.cell? ⟨xb, j, none⟩ = #[Value.int .i64 op, .int .i64 rr, .int .i64 ss, .int .i32 imm][j]?)
    (first
      | exact HK.out _ _ (by assumption)
      | exact HK.out _ _ (Holds.drop (by assumption))
      | exact HK.out _ _ (Holds.drop (Holds.drop (by assumption)))
      | exact HK.out _ _ (Holds.drop (Holds.alloc (by assumption) _))
      | exact HK.out _ _ (Holds.drop (Holds.drop (Holds.alloc (by assumption) _)))
      | exact HK.out _ _ (Holds.drop (Holds.drew (Holds.alloc H2 _))))
    (first
      | (go_at_call 53; refine (CW0.out _ _ (by first | assumption | exact Holds.alloc (by assumption) _)).mono ?_; rintro e w4 ⟨rfl, HN⟩)
      | (go_at_call 52; refine (CP.out _ _ (by first | assumption | exact Holds.alloc (by assumption) _)).mono ?_; rintro e w5 ⟨pv, rfl, HN⟩; have HRD : Reads w5 pv 1 4 (u8v (le 4 W)) := bts.reads HN)
      | (refine step_append_sl rfl (.tmp 12) (.tmp 15) _ rfl 5 1 1 elem_u8 _ 4 [.int .u8 op, .int .u8 rr, .int .u8 ss, .int .u8 0] (by go_simp; rfl) pv 4 (u8v (le 4 W)) (by go_simp) (u8v_one _) f1 f2 (by first | exact row.made (Holds.swap HN) (Nat.le_refl _) (by decide) rfl rfl | exact row.made (Holds.alloc HN (.cells #[.int .u8 op, .int .u8 rr, .int .u8 ss, .int .u8 0] 5)) (Nat.le_refl _) (by decide) rfl rfl) (by first | exact HRD | exact Reads.alloc HRD _) ?_; intro v6 w6 H6))
  all_goals
    have HF : Hid (Holds _ w6 (row v6 5 1 8 (u8v (insB ⟨op, rr, ss, imm⟩)) :: R)) := Lib.hid (by
      rw [HBY.out]
      exact H6.re 3 [0])
    clear H6 HN HRD HK CW0 CP
    go_wp2_with fail
    go_ret
    exact ⟨v6, rfl, by unfold bts; rw [insB_len]; exact HF.out⟩
end
end Go.Proofs.Ytjbphdjheklhbaa
