/-
  Package cpu: store; which instruction is done.
-/
import Derived.Test.YtjbphdjheklhbaaCp3
namespace Go.Proofs.Ytjbphdjheklhbaa
open Go.RowKit

section
variable {e : Env} {w : World} {R : List HP} {m b : Nat} {M : List Pg} {C : CpS} {op kr ks : Nat} {imm : Int}

set_option maxRecDepth 100000 in
set_option maxHeartbeats 2000000 in
theorem cpuStore (hC : CpOk C) (hr : kr < 4) (hs : ks < 4) (hi0 : -2147483648 ≤ imm) (hi1 : imm ≤ 2147483647) (H : Holds e w (cpH b C :: modH m M :: R)) :
    Calls Try.prog 74 #[.pointer (some ⟨b, 0, none⟩), coreV m, InsS.val ⟨op, kr, ks, imm⟩] w
      (Ret e (.int .i64 (chk M (add64 (C.r.getD ks 0) (wideN imm)) 8 2)) (cpH b C :: modH m (stoP M (add64 (C.r.getD ks 0) (wideN imm)) (le 8 (C.r.getD kr 0))) :: R)) := by
  obtain ⟨xb, hxb⟩ : ∃ xb, w.heap.size = xb := ⟨_, rfl⟩
  have H1 := H.alloc (.cells #[.int .i64 op, .int .i64 kr, .int .i64 ks, .int .i32 imm] 71)
  rw [hxb] at H1
  have CW := Lib.hid fun w' X (h' : Holds e w' X) => cpuWide ⟨op, kr, ks, imm⟩ hi0 hi1 h'
  unfold InsS.val at CW ⊢
  dsimp only at CW ⊢
  have hW64 := wideN_lt imm
  have hrk := hC.reg kr
  have hrs := hC.reg ks
  have hpc64 := hC.pc
  obtain ⟨r, pc, dn, hd⟩ := C
  have HK : Hid (∀ w' X, Holds e w' (pts xb (.cells #[.int .i64 op, .int .i64 kr, .int .i64 ks, .int .i32 imm] 71 (0, 0)) :: cpH b ⟨r, pc, dn, hd⟩ :: X) → (∀ j, (w').cell? ⟨xb, j, none⟩ = #[Value.int .i64 op, .int .i64 kr, .int .i64 ks, .int .i32 imm][j]?) ∧ (w').cell? ⟨b, kr, none⟩ = some (.int .u64 (r.getD kr 0 : Nat)) ∧ (w').cell? ⟨b, ks, none⟩ = some (.int .u64 (r.getD ks 0 : Nat)) ∧ (w').cell? ⟨b, 4, none⟩ = some (.int .u64 (pc : Nat)) ∧ (w').cell? ⟨b, 6, none⟩ = some (.bool hd) ∧ (∀ j, (w').frozen? ⟨b, j, none⟩ = false) ∧ b ≠ xb) := Lib.hid fun w' X h' => ⟨h'.cells, cpH.cell h'.swap (cp_reg hC.len hr), cpH.cell h'.swap (cp_reg hC.len hs), cpH.cell h'.swap (cp_pc hC.len), cpH.cell h'.swap (cp_halted hC.len), fun j => cpH.frozen h'.swap, fun hq => Holds.ne (o' := .cells (CpS.cells ⟨r, pc, dn, hd⟩).toArray 130 (0, 0)) h' hq.symm⟩
  have HL := Lib.hid hC.len
  generalize wideN imm = W at *
  dsimp only at *
  generalize r.getD kr 0 = rk at *
  generalize r.getD ks 0 = rs at *
  have krI : (kr : Int) < 4 := by omega
  have krI0 : (0 : Int) ≤ (kr : Int) := by omega
  have ksI : (ks : Int) < 4 := by omega
  have ksI0 : (0 : Int) ≤ (ks : Int) := by omega
  have hw1 := add64_wrap rs W
  have hx1 := add64_lt rs W
  generalize add64 rs W = a at *
  have hme := fun w => core_store (m := m) w
  have hnl := fun w => nil_store (m := m) w
  have HP : Hid (∀ w' blk X, Holds e w' (pts blk (.cells #[.int .u64 rk] 28 (0, 0)) :: pts xb (.cells #[.int .i64 op, .int .i64 kr, .int .i64 ks, .int .i32 imm] 71 (0, 0)) :: cpH b ⟨r, pc, dn, hd⟩ :: X) → Calls Try.prog 54 #[.int .i64 8, .slice (some ⟨blk, 0, none⟩) 1 1] w' (RetEx e (fun v : Value => v) (fun v => pts xb (.cells #[.int .i64 op, .int .i64 kr, .int .i64 ks, .int .i32 imm] 71 (0, 0)) :: cpH b ⟨r, pc, dn, hd⟩ :: bts v (le 8 rk) :: X))) := Lib.hid fun w' blk X h' => by
    have := numPut_any h' 8 (by omega) (by omega) [rk] (by simp) (.slice (some ⟨blk, 0, none⟩) 1 1) (fun w' h'' => ⟨rfl, .inr ⟨_, _, rfl, Nat.le_refl _, fun j u hj => by rw [Addr.add_at, Nat.zero_add, h''.cells]; simpa [u64v] using hj⟩⟩)
    exact (this.mono fun en w'' ⟨v, h1, h2⟩ => ⟨v, h1, by
      have h3 : Holds e w'' (bts v (le 8 rk) :: pts blk (.cells #[.int .u64 rk] 28 (0, 0)) :: pts xb (.cells #[.int .i64 op, .int .i64 kr, .int .i64 ks, .int .i32 imm] 71 (0, 0)) :: cpH b ⟨r, pc, dn, hd⟩ :: X) := by simpa using h2
      exact h3.re 4 [2, 3, 0]⟩)
  have HS : Hid (∀ w' v X, Holds e w' (pts xb (.cells #[.int .i64 op, .int .i64 kr, .int .i64 ks, .int .i32 imm] 71 (0, 0)) :: cpH b ⟨r, pc, dn, hd⟩ :: bts v (le 8 rk) :: modH m M :: X) → Calls Try.prog 132 #[.agg #[.pointer (some ⟨m, 0, none⟩)], .int .u64 a, v] w'
      (Ret e (.int .i64 (chk M a 8 2)) (pts xb (.cells #[.int .i64 op, .int .i64 kr, .int .i64 ks, .int .i32 imm] 71 (0, 0)) :: cpH b ⟨r, pc, dn, hd⟩ :: modH m (stoP M a (le 8 rk)) :: X))) := Lib.hid fun w' v X h' => by
    have := flatStore (m := m) (M := M) (a := a) hx1 (d := v) (ds := le 8 rk) (R := pts xb (.cells #[.int .i64 op, .int .i64 kr, .int .i64 ks, .int .i32 imm] 71 (0, 0)) :: cpH b ⟨r, pc, dn, hd⟩ :: bts v (le 8 rk) :: X) (fun w'' g => bts.reads (g.re 3 [2])) (by rw [le_length]; omega) (h'.re 4 [3, 0, 1, 2])
    rw [le_length] at this
    exact retC this fun w'' g => g.re 4 [1, 2, 0]
  generalize chk M a 8 2 = E at *
  generalize stoP M a (le 8 rk) = M' at *
  unfold coreV memV at *
  clear hi0 hi1 H hC
  go_enter Try.func74, Try.ntmps74
  go_wp2_with fail
  refine code_at H1 fun w2 H2 => ?_
  have hdr := H2.drew
  obtain ⟨k1, k2, k3, k4, k5, k6, k7⟩ := HK.out _ _ H2
  go_region_held3 (fun w' => (∀ j, (w').cell? ⟨xb, j, none⟩ = #[Value.int .i64 op, .int .i64 kr, .int .i64 ks, .int .i32 imm][j]?) ∧ (w').cell? ⟨b, kr, none⟩ = some (.int .u64 (rk : Nat)) ∧ (w').cell? ⟨b, ks, none⟩ = some (.int .u64 (rs : Nat)) ∧ (w').cell? ⟨b, 4, none⟩ = some (.int .u64 (pc : Nat)) ∧ (w').cell? ⟨b, 6, none⟩ = some (.bool hd) ∧ (∀ j, (w').frozen? ⟨b, j, none⟩ = false) ∧ b ≠ xb)
    (first | exact HK.out _ _ (by assumption) | exact HK.out _ _ (Holds.drop (by assumption)) | exact HK.out _ _ (Holds.drop (Holds.alloc (by assumption) _)) | exact HK.out _ _ (Holds.drop (Holds.drew (Holds.alloc H2 _))))
    (first
      | (go_at_call 88; refine (CW.out _ _ (by first | assumption | exact Holds.alloc (by assumption) _)).mono ?_; rintro e w4 ⟨rfl, HN⟩)
      | (go_at_call 54; refine (HP.out _ _ _ (by first | exact Holds.alloc (by assumption) _ | assumption)).mono ?_; rintro e w4 ⟨d, rfl, HN⟩)
      | (go_at_call 132; refine (HS.out _ _ _ (by assumption)).mono ?_; rintro e w4 ⟨rfl, HN⟩))
  all_goals
    clear k1 k2 k3 k4 k5 k6 H2 hdr H1 hme hnl CW HP HS HK
    go_wp2_with fail
    go_ret
    exact ⟨rfl, HN.drop⟩
end
end Go.Proofs.Ytjbphdjheklhbaa
