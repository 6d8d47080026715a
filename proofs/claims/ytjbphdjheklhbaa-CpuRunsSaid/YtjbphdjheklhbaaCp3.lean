/-
  Package cpu: load and store.
-/
import Derived.Test.YtjbphdjheklhbaaCp2
import Derived.Deep.RegionHeld3
namespace Go.Proofs.Ytjbphdjheklhbaa
open Go.RowKit

/-- A register behind a load. -/
def ldC (C : CpS) (kr E n : Nat) : CpS := if E = 0 then ⟨C.r.set kr n, C.pc, C.done, C.halted⟩ else C
theorem rdE_zero {M : List Pg} {a u : Nat} {n : Int} (h : chk M a n u = 0) : rdE M a n u = rdb M a n.toNat := by unfold rdE; rw [if_pos h]

section
variable {e : Env} {w : World} {R : List HP} {m b : Nat} {M : List Pg} {C : CpS} {op kr ks : Nat} {imm : Int}
theorem core_load (w : World) : (method 303 132 (.agg #[memV m, .pointer (some ⟨m, 0, none⟩)]) "Load").run Try.prog w = .ok (131, .agg #[.pointer (some ⟨m, 0, none⟩)]) w := by kernel_rfl
theorem core_store (w : World) : (method 303 132 (.agg #[memV m, .pointer (some ⟨m, 0, none⟩)]) "Store").run Try.prog w = .ok (132, .agg #[.pointer (some ⟨m, 0, none⟩)]) w := by kernel_rfl
theorem core_fetch (w : World) : (method 303 132 (.agg #[memV m, .pointer (some ⟨m, 0, none⟩)]) "Fetch").run Try.prog w = .ok (133, .agg #[memV m, .pointer (some ⟨m, 0, none⟩)]) w := by kernel_rfl
theorem nil_load (w : World) : (nilAhead 303 132 (.agg #[memV m, .pointer (some ⟨m, 0, none⟩)]) "Load").run Try.prog w = .ok (some false) w := by kernel_rfl
theorem nil_store (w : World) : (nilAhead 303 132 (.agg #[memV m, .pointer (some ⟨m, 0, none⟩)]) "Store").run Try.prog w = .ok (some false) w := by kernel_rfl
theorem nil_fetch (w : World) : (nilAhead 303 132 (.agg #[memV m, .pointer (some ⟨m, 0, none⟩)]) "Fetch").run Try.prog w = .ok (some false) w := by kernel_rfl

set_option maxRecDepth 100000 in
set_option maxHeartbeats 2000000 in
theorem cpuLoad (hC : CpOk C) (hr : kr < 4) (hs : ks < 4) (hi0 : -2147483648 ≤ imm) (hi1 : imm ≤ 2147483647) (H : Holds e w (cpH b C :: modH m M :: R)) :
    Calls Try.prog 73 #[.pointer (some ⟨b, 0, none⟩), coreV m, InsS.val ⟨op, kr, ks, imm⟩] w
      (Ret e (.int .i64 (chk M (add64 (C.r.getD ks 0) (wideN imm)) 8 1)) (cpH b (ldC C kr (chk M (add64 (C.r.getD ks 0) (wideN imm)) 8 1) (unle (rdb M (add64 (C.r.getD ks 0) (wideN imm)) 8))) :: modH m M :: R)) := by
  obtain ⟨xb, hxb⟩ : ∃ xb, w.heap.size = xb := ⟨_, rfl⟩
  have H1 := H.alloc (.cells #[.int .i64 op, .int .i64 kr, .int .i64 ks, .int .i32 imm] 71)
  rw [hxb] at H1
  have CW := Lib.hid fun w' X (h' : Holds e w' X) => cpuWide ⟨op, kr, ks, imm⟩ hi0 hi1 h'
  unfold InsS.val at CW ⊢
  dsimp only at CW ⊢
  have hW64 := wideN_lt imm
  have hrk := hC.reg kr
  have hrs := hC.reg ks
  have hpc64 := hC.pc
  obtain ⟨r, pc, dn, hd⟩ := C
  have HK : Hid (∀ w' X, Holds e w' (pts xb (.cells #[.int .i64 op, .int .i64 kr, .int .i64 ks, .int .i32 imm] 71 (0, 0)) :: cpH b ⟨r, pc, dn, hd⟩ :: X) → (∀ j, (w').cell? ⟨xb, j, none⟩ = #[Value.int .i64 op, .int .i64 kr, .int .i64 ks, .int .i32 imm][j]?) ∧ (w').cell? ⟨b, kr, none⟩ = some (.int .u64 (r.getD kr 0 : Nat)) ∧ (w').cell? ⟨b, ks, none⟩ = some (.int .u64 (r.getD ks 0 : Nat)) ∧ (w').cell? ⟨b, 4, none⟩ = some (.int .u64 (pc : Nat)) ∧ (w').cell? ⟨b, 6, none⟩ = some (.bool hd) ∧ (∀ j, (w').frozen? ⟨b, j, none⟩ = false) ∧ b ≠ xb) := Lib.hid fun w' X h' => ⟨h'.cells, cpH.cell h'.swap (cp_reg hC.len hr), cpH.cell h'.swap (cp_reg hC.len hs), cpH.cell h'.swap (cp_pc hC.len), cpH.cell h'.swap (cp_halted hC.len), fun j => cpH.frozen h'.swap, fun hq => Holds.ne (o' := .cells (CpS.cells ⟨r, pc, dn, hd⟩).toArray 130 (0, 0)) h' hq.symm⟩
  have HL := Lib.hid hC.len
  generalize wideN imm = W at *
  dsimp only at *
  generalize r.getD kr 0 = rk at *
  generalize r.getD ks 0 = rs at *
  have krI : (kr : Int) < 4 := by omega
  have krI0 : (0 : Int) ≤ (kr : Int) := by omega
  have ksI : (ks : Int) < 4 := by omega
  have ksI0 : (0 : Int) ≤ (ks : Int) := by omega
  have hw1 := add64_wrap rs W
  have hx1 := add64_lt rs W
  generalize add64 rs W = a at *
  have hme := fun w => core_load (m := m) w
  have hnl := fun w => nil_load (m := m) w
  have LD : Hid (∀ w' X, Holds e w' (pts xb (.cells #[.int .i64 op, .int .i64 kr, .int .i64 ks, .int .i32 imm] 71 (0, 0)) :: cpH b ⟨r, pc, dn, hd⟩ :: modH m M :: X) → Calls Try.prog 131 #[.agg #[.pointer (some ⟨m, 0, none⟩)], .int .u64 a, .int .i64 8] w'
      (RetEx e (fun d : Value => .tuple #[d, .int .i64 (chk M a 8 1)]) (fun d => pts xb (.cells #[.int .i64 op, .int .i64 kr, .int .i64 ks, .int .i32 imm] 71 (0, 0)) :: cpH b ⟨r, pc, dn, hd⟩ :: bts d (rdE M a 8 1) :: modH m M :: X))) := Lib.hid fun w' X h' =>
    (flatLoad (m := m) (M := M) (a := a) hx1 8 (by omega) (by omega) (h'.re 3 [2, 0, 1])).mono fun en w'' ⟨d, h1, h2⟩ => ⟨d, h1, h2.re 4 [2, 3, 0, 1]⟩
  obtain ⟨E, hE⟩ : ∃ E, chk M a 8 1 = E := ⟨_, rfl⟩
  have HE := Lib.hid hE
  rw [hE] at LD ⊢
  obtain ⟨C', hC'⟩ : ∃ C', ldC ⟨r, pc, dn, hd⟩ kr E (unle (rdb M a 8)) = C' := ⟨_, rfl⟩
  have HC' := Lib.hid hC'
  rw [hC']
  unfold coreV memV at *
  clear hi0 hi1 H hC hE hC'
  go_enter Try.func73, Try.ntmps73
  go_wp2_with fail
  refine code_at H1 fun w2 H2 => ?_
  have hdr := H2.drew
  obtain ⟨k1, k2, k3, k4, k5, k6, k7⟩ := HK.out _ _ H2
  go_region_held3 (fun w' => (∀ j, (w').cell? ⟨xb, j, none⟩ = #[Value.int .i64 op, .int .i64 kr, .int .i64 ks, .int .i32 imm][j]?) ∧ (w').cell? ⟨b, kr, none⟩ = some (.int .u64 (rk : Nat)) ∧ (w').cell? ⟨b, ks, none⟩ = some (.int .u64 (rs : Nat)) ∧ (w').cell? ⟨b, 4, none⟩ = some (.int .u64 (pc : Nat)) ∧ (w').cell? ⟨b, 6, none⟩ = some (.bool hd) ∧ (∀ j, (w').frozen? ⟨b, j, none⟩ = false) ∧ b ≠ xb)
    (first | exact HK.out _ _ (by assumption))
    (first
      | (go_at_call 88; refine (CW.out _ _ (by assumption)).mono ?_; rintro e w4 ⟨rfl, HN⟩)
      | (go_at_call 131; refine (LD.out _ _ (by assumption)).mono ?_; rintro e w4 ⟨d, rfl, HN⟩))
  all_goals
    clear k1 k2 k3 k4 k5 k6 H2 hdr H1 hme hnl LD CW
    by_cases h0 : E = 0
    · have d0 : ((E : Int) == 0) = true := by simp [h0]
      have hE0 : chk M a 8 1 = 0 := HE.out.trans h0
      rw [rdE_zero hE0] at HN
      have CG : Hid (∀ w' X, Holds e w' (pts xb (.cells #[.int .i64 op, .int .i64 kr, .int .i64 ks, .int .i32 imm] 71 (0, 0)) :: cpH b ⟨r, pc, dn, hd⟩ :: bts d (rdb M a 8) :: X) → Calls Try.prog 67 #[d, .int .i64 0, .int .i64 8] w' (Ret e (.tuple #[.int .u64 (unle (rdb M a 8)), .bool true]) (pts xb (.cells #[.int .i64 op, .int .i64 kr, .int .i64 ks, .int .i32 imm] 71 (0, 0)) :: cpH b ⟨r, pc, dn, hd⟩ :: bts d (rdb M a 8) :: X))) := Lib.hid fun w' X h' => by
        have h1 := numGet_any h' 8 (by omega) (by omega) (rdb M a 8) 0 (by rw [rdb_length]; omega) (by rw [rdb_length]; omega) d (fun w'' g => bts.reads (g.re 3 [2]))
        rw [List.drop_zero, List.take_of_length_le (by rw [rdb_length]; omega)] at h1
        exact h1
      have hx2 := unle_lt (rdb M a 8)
      rw [rdb_length] at hx2
      have hx3 : unle (rdb M a 8) < 18446744073709551616 := hx2
      have hCC : C' = ⟨r.set kr (unle (rdb M a 8)), pc, dn, hd⟩ := by rw [← HC'.out]; unfold ldC; rw [if_pos h0]
      generalize unle (rdb M a 8) = n at *
      subst hCC
      have HF : Hid (∀ w', Holds e w' (pts xb (.cells #[.int .i64 op, .int .i64 kr, .int .i64 ks, .int .i32 imm] 71 (0, 0)) :: cpH b ⟨r, pc, dn, hd⟩ :: bts d (rdb M a 8) :: modH m M :: R) → Holds e (w'.setCell ⟨b, kr, none⟩ (.int .u64 n)) (cpH b ⟨r.set kr n, pc, dn, hd⟩ :: modH m M :: R)) := Lib.hid fun w' h' => (cpH.set h'.drop (cp_setR HL.out hr n)).re 3 [0, 2]
      go_wp2_with fail
      refine code_at HN fun w3 H3 => ?_
      have H3d := H3.drew
      obtain ⟨k1, k2, k3, k4, k5, k6, k7⟩ := HK.out _ _ H3
      obtain ⟨j1, j2, j3, j4, j5, j6, j7⟩ := HK.out _ _ H3d
      clear HN
      first | go_region_with (go_at_call 67; refine (CG.out _ _ (by assumption)).mono ?_; rintro e w5 ⟨rfl, HN2⟩; obtain ⟨g1, g2, g3, g4, g5, g6, g7⟩ := HK.out _ _ HN2) | fail
      all_goals
        clear CG H3 H3d
        go_wp2_with fail
        go_ret
        exact ⟨by rw [h0]; rfl, HF.out _ HN2⟩
    · have d0 : ((E : Int) == 0) = false := by simp; omega
      have hCC : C' = ⟨r, pc, dn, hd⟩ := by rw [← HC'.out]; unfold ldC; rw [if_neg h0]
      have HH := Lib.hid (HN.re 4 [1, 3])
      subst hCC
      clear HN
      go_wp2_with fail
      go_ret
      exact ⟨rfl, HH.out⟩
end
end Go.Proofs.Ytjbphdjheklhbaa
