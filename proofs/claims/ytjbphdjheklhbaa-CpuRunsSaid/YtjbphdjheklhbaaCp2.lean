/-
  Package cpu: the instructions that touch no memory.
-/
import Derived.Test.YtjbphdjheklhbaaCp1
import Derived.Test.YtjbphdjheklhbaaQl
namespace Go.Proofs.Ytjbphdjheklhbaa
open Go.RowKit

/- By Int: what a + 2^64 comes to is never unrolled. -/
def sub64 (a b : Nat) : Nat := (((a : Int) - (b : Int)) % 18446744073709551616).toNat
def add64 (a b : Nat) : Nat := (a + b) % 18446744073709551616
def mul64 (a b : Nat) : Nat := (a * b) % 18446744073709551616
theorem mul64_lt (a b : Nat) : mul64 a b < 18446744073709551616 := by unfold mul64; omega
theorem mul64_wrap (a b : Nat) : IntKind.u64.wrap ((a : Int) * (b : Int)) = (mul64 a b : Int) := by
  rw [IntKind.wrap_u64]; unfold mul64
  have : (a : Int) * (b : Int) = ((a * b : Nat) : Int) := by simp
  rw [this]; omega
theorem sub64_lt (a b : Nat) : sub64 a b < 18446744073709551616 := by unfold sub64; omega
theorem add64_lt (a b : Nat) : add64 a b < 18446744073709551616 := by unfold add64; omega
theorem sub64_wrap {a b : Nat} (_hb : b < 18446744073709551616) : IntKind.u64.wrap ((a : Int) - (b : Int)) = (sub64 a b : Int) := by rw [IntKind.wrap_u64]; unfold sub64; omega
theorem add64_wrap (a b : Nat) : IntKind.u64.wrap ((a : Int) + (b : Int)) = (add64 a b : Int) := by rw [IntKind.wrap_u64]; unfold add64; omega

section
variable {e : Env} {w : World} {R : List HP} {m b : Nat} {M : List Pg} {C : CpS} {op kr ks : Nat} {imm : Int} {mv : Value}
set_option maxRecDepth 100000 in
set_option maxHeartbeats 1000000 in
theorem cpuSet (hC : CpOk C) (hr : kr < 4) (hs : ks < 4) (hi0 : -2147483648 ≤ imm) (hi1 : imm ≤ 2147483647) (H : Holds e w (cpH b C :: R)) :
    Calls Try.prog 70 #[.pointer (some ⟨b, 0, none⟩), mv, InsS.val ⟨op, kr, ks, imm⟩] w (Ret e (.int .i64 0) (cpH b ⟨C.r.set kr (wideN imm), C.pc, C.done, C.halted⟩ :: R)) := by
  obtain ⟨xb, hxb⟩ : ∃ xb, w.heap.size = xb := ⟨_, rfl⟩
  have H1 := H.alloc (.cells #[.int .i64 op, .int .i64 kr, .int .i64 ks, .int .i32 imm] 71)
  rw [hxb] at H1
  have CW := Lib.hid fun w' X (h' : Holds e w' X) => cpuWide ⟨op, kr, ks, imm⟩ hi0 hi1 h'
  unfold InsS.val at CW ⊢
  dsimp only at CW ⊢
  have hW64 := wideN_lt imm
  have hrk := hC.reg kr
  have hrs := hC.reg ks
  have hpc64 := hC.pc
  obtain ⟨r, pc, dn, hd⟩ := C
  have HK : Hid (∀ w' X, Holds e w' (pts xb (.cells #[.int .i64 op, .int .i64 kr, .int .i64 ks, .int .i32 imm] 71 (0, 0)) :: cpH b ⟨r, pc, dn, hd⟩ :: X) → (∀ j, (w').cell? ⟨xb, j, none⟩ = #[Value.int .i64 op, .int .i64 kr, .int .i64 ks, .int .i32 imm][j]?) ∧ (w').cell? ⟨b, kr, none⟩ = some (.int .u64 (r.getD kr 0 : Nat)) ∧ (w').cell? ⟨b, ks, none⟩ = some (.int .u64 (r.getD ks 0 : Nat)) ∧ (w').cell? ⟨b, 4, none⟩ = some (.int .u64 (pc : Nat)) ∧ (w').cell? ⟨b, 6, none⟩ = some (.bool hd) ∧ (∀ j, (w').frozen? ⟨b, j, none⟩ = false) ∧ b ≠ xb) := Lib.hid fun w' X h' => ⟨h'.cells, cpH.cell h'.swap (cp_reg hC.len hr), cpH.cell h'.swap (cp_reg hC.len hs), cpH.cell h'.swap (cp_pc hC.len), cpH.cell h'.swap (cp_halted hC.len), fun j => cpH.frozen h'.swap, fun hq => Holds.ne (o' := .cells (CpS.cells ⟨r, pc, dn, hd⟩).toArray 130 (0, 0)) h' hq.symm⟩
  have HL := Lib.hid hC.len
  generalize wideN imm = W at *
  dsimp only at *
  generalize r.getD kr 0 = rk at *
  generalize r.getD ks 0 = rs at *
  have krI : (kr : Int) < 4 := by omega
  have krI0 : (0 : Int) ≤ (kr : Int) := by omega
  have ksI : (ks : Int) < 4 := by omega
  have ksI0 : (0 : Int) ≤ (ks : Int) := by omega
  have HF : Hid (∀ w', Holds e w' (pts xb (.cells #[.int .i64 op, .int .i64 kr, .int .i64 ks, .int .i32 imm] 71 (0, 0)) :: cpH b ⟨r, pc, dn, hd⟩ :: R) → Holds e (w'.setCell ⟨b, kr, none⟩ (.int .u64 W)) (cpH b ⟨r.set kr W, pc, dn, hd⟩ :: R)) := Lib.hid fun w' h' => cpH.set h'.drop (cp_setR HL.out hr W)
  clear hi0 hi1 H hC
  go_enter Try.func70, Try.ntmps70
  go_wp2_with fail
  obtain ⟨I, Wf, hI, hW, hWs⟩ := worlds_of H1
  have r1 : ∀ i j, (Wf i).cell? ⟨xb, j, none⟩ = #[Value.int .i64 op, .int .i64 kr, .int .i64 ks, .int .i32 imm][j]? := fun i => (HK.out _ _ (hW i)).1
  have r2 := fun i => (HK.out _ _ (hW i)).2.1
  have r3 := fun i => (HK.out _ _ (hW i)).2.2.1
  have r4 := fun i => (HK.out _ _ (hW i)).2.2.2.1
  have r5 : ∀ i j, (Wf i).frozen? ⟨b, j, none⟩ = false := fun i => (HK.out _ _ (hW i)).2.2.2.2.2.1
  refine wp_region_last (C := fun w' => ∃ i, w' = Wf i) rfl (by kernel_rfl) (by kernel_rfl) rfl (hWs _ (H1.drawn _)) ?_
  simp only [List.dropLast]
  (repeat (go_big_quiet_step ((go_at_call 88; exact quietH (CW.out _ _ (hW _)) hWs)))); refine wpQuiet_nil ?_; intro _ hw'; obtain ⟨nq, hw''⟩ := hw'; subst hw''
  unfold Oper.wp
  go_simp
  have HN := hW nq
  generalize Wf nq = w4 at *
  clear r1 r2 r3 r4 r5 hW hWs CW
  go_wp2_with fail
  go_ret
  exact ⟨rfl, HF.out _ HN⟩
set_option maxRecDepth 100000 in
set_option maxHeartbeats 1000000 in
theorem cpuAdd (hC : CpOk C) (hr : kr < 4) (hs : ks < 4) (hi0 : -2147483648 ≤ imm) (hi1 : imm ≤ 2147483647) (H : Holds e w (cpH b C :: R)) :
    Calls Try.prog 71 #[.pointer (some ⟨b, 0, none⟩), mv, InsS.val ⟨op, kr, ks, imm⟩] w (Ret e (.int .i64 0) (cpH b ⟨C.r.set kr (add64 (C.r.getD kr 0) (add64 (C.r.getD ks 0) (wideN imm))), C.pc, C.done, C.halted⟩ :: R)) := by
  obtain ⟨xb, hxb⟩ : ∃ xb, w.heap.size = xb := ⟨_, rfl⟩
  have H1 := H.alloc (.cells #[.int .i64 op, .int .i64 kr, .int .i64 ks, .int .i32 imm] 71)
  rw [hxb] at H1
  have CW := Lib.hid fun w' X (h' : Holds e w' X) => cpuWide ⟨op, kr, ks, imm⟩ hi0 hi1 h'
  unfold InsS.val at CW ⊢
  dsimp only at CW ⊢
  have hW64 := wideN_lt imm
  have hrk := hC.reg kr
  have hrs := hC.reg ks
  have hpc64 := hC.pc
  obtain ⟨r, pc, dn, hd⟩ := C
  have HK : Hid (∀ w' X, Holds e w' (pts xb (.cells #[.int .i64 op, .int .i64 kr, .int .i64 ks, .int .i32 imm] 71 (0, 0)) :: cpH b ⟨r, pc, dn, hd⟩ :: X) → (∀ j, (w').cell? ⟨xb, j, none⟩ = #[Value.int .i64 op, .int .i64 kr, .int .i64 ks, .int .i32 imm][j]?) ∧ (w').cell? ⟨b, kr, none⟩ = some (.int .u64 (r.getD kr 0 : Nat)) ∧ (w').cell? ⟨b, ks, none⟩ = some (.int .u64 (r.getD ks 0 : Nat)) ∧ (w').cell? ⟨b, 4, none⟩ = some (.int .u64 (pc : Nat)) ∧ (w').cell? ⟨b, 6, none⟩ = some (.bool hd) ∧ (∀ j, (w').frozen? ⟨b, j, none⟩ = false) ∧ b ≠ xb) := Lib.hid fun w' X h' => ⟨h'.cells, cpH.cell h'.swap (cp_reg hC.len hr), cpH.cell h'.swap (cp_reg hC.len hs), cpH.cell h'.swap (cp_pc hC.len), cpH.cell h'.swap (cp_halted hC.len), fun j => cpH.frozen h'.swap, fun hq => Holds.ne (o' := .cells (CpS.cells ⟨r, pc, dn, hd⟩).toArray 130 (0, 0)) h' hq.symm⟩
  have HL := Lib.hid hC.len
  generalize wideN imm = W at *
  dsimp only at *
  generalize r.getD kr 0 = rk at *
  generalize r.getD ks 0 = rs at *
  have krI : (kr : Int) < 4 := by omega
  have krI0 : (0 : Int) ≤ (kr : Int) := by omega
  have ksI : (ks : Int) < 4 := by omega
  have ksI0 : (0 : Int) ≤ (ks : Int) := by omega
  have hw1 := add64_wrap rs W
  have hx1 := add64_lt rs W
  generalize add64 rs W = t1 at *
  have hw2 := add64_wrap rk t1
  have hx2 := add64_lt rk t1
  generalize add64 rk t1 = t2 at *
  have HF : Hid (∀ w', Holds e w' (pts xb (.cells #[.int .i64 op, .int .i64 kr, .int .i64 ks, .int .i32 imm] 71 (0, 0)) :: cpH b ⟨r, pc, dn, hd⟩ :: R) → Holds e (w'.setCell ⟨b, kr, none⟩ (.int .u64 t2)) (cpH b ⟨r.set kr t2, pc, dn, hd⟩ :: R)) := Lib.hid fun w' h' => cpH.set h'.drop (cp_setR HL.out hr t2)
  clear hi0 hi1 H hC
  go_enter Try.func71, Try.ntmps71
  go_wp2_with fail
  obtain ⟨I, Wf, hI, hW, hWs⟩ := worlds_of H1
  have r1 : ∀ i j, (Wf i).cell? ⟨xb, j, none⟩ = #[Value.int .i64 op, .int .i64 kr, .int .i64 ks, .int .i32 imm][j]? := fun i => (HK.out _ _ (hW i)).1
  have r2 := fun i => (HK.out _ _ (hW i)).2.1
  have r3 := fun i => (HK.out _ _ (hW i)).2.2.1
  have r4 := fun i => (HK.out _ _ (hW i)).2.2.2.1
  have r5 : ∀ i j, (Wf i).frozen? ⟨b, j, none⟩ = false := fun i => (HK.out _ _ (hW i)).2.2.2.2.2.1
  refine wp_region_last (C := fun w' => ∃ i, w' = Wf i) rfl (by kernel_rfl) (by kernel_rfl) rfl (hWs _ (H1.drawn _)) ?_
  simp only [List.dropLast]
  (repeat (go_big_quiet_step ((go_at_call 88; exact quietH (CW.out _ _ (hW _)) hWs)))); refine wpQuiet_nil ?_; intro _ hw'; obtain ⟨nq, hw''⟩ := hw'; subst hw''
  unfold Oper.wp
  go_simp
  have HN := hW nq
  generalize Wf nq = w4 at *
  clear r1 r2 r3 r4 r5 hW hWs CW
  go_wp2_with fail
  go_ret
  exact ⟨rfl, HF.out _ HN⟩
set_option maxRecDepth 100000 in
set_option maxHeartbeats 1000000 in
theorem cpuSub (hC : CpOk C) (hr : kr < 4) (hs : ks < 4) (hi0 : -2147483648 ≤ imm) (hi1 : imm ≤ 2147483647) (H : Holds e w (cpH b C :: R)) :
    Calls Try.prog 72 #[.pointer (some ⟨b, 0, none⟩), mv, InsS.val ⟨op, kr, ks, imm⟩] w (Ret e (.int .i64 0) (cpH b ⟨C.r.set kr (sub64 (C.r.getD kr 0) (C.r.getD ks 0)), C.pc, C.done, C.halted⟩ :: R)) := by
  obtain ⟨xb, hxb⟩ : ∃ xb, w.heap.size = xb := ⟨_, rfl⟩
  have H1 := H.alloc (.cells #[.int .i64 op, .int .i64 kr, .int .i64 ks, .int .i32 imm] 71)
  rw [hxb] at H1
  have CW := Lib.hid fun w' X (h' : Holds e w' X) => cpuWide ⟨op, kr, ks, imm⟩ hi0 hi1 h'
  unfold InsS.val at CW ⊢
  dsimp only at CW ⊢
  have hW64 := wideN_lt imm
  have hrk := hC.reg kr
  have hrs := hC.reg ks
  have hpc64 := hC.pc
  obtain ⟨r, pc, dn, hd⟩ := C
  have HK : Hid (∀ w' X, Holds e w' (pts xb (.cells #[.int .i64 op, .int .i64 kr, .int .i64 ks, .int .i32 imm] 71 (0, 0)) :: cpH b ⟨r, pc, dn, hd⟩ :: X) → (∀ j, (w').cell? ⟨xb, j, none⟩ = #[Value.int .i64 op, .int .i64 kr, .int .i64 ks, .int .i32 imm][j]?) ∧ (w').cell? ⟨b, kr, none⟩ = some (.int .u64 (r.getD kr 0 : Nat)) ∧ (w').cell? ⟨b, ks, none⟩ = some (.int .u64 (r.getD ks 0 : Nat)) ∧ (w').cell? ⟨b, 4, none⟩ = some (.int .u64 (pc : Nat)) ∧ (w').cell? ⟨b, 6, none⟩ = some (.bool hd) ∧ (∀ j, (w').frozen? ⟨b, j, none⟩ = false) ∧ b ≠ xb) := Lib.hid fun w' X h' => ⟨h'.cells, cpH.cell h'.swap (cp_reg hC.len hr), cpH.cell h'.swap (cp_reg hC.len hs), cpH.cell h'.swap (cp_pc hC.len), cpH.cell h'.swap (cp_halted hC.len), fun j => cpH.frozen h'.swap, fun hq => Holds.ne (o' := .cells (CpS.cells ⟨r, pc, dn, hd⟩).toArray 130 (0, 0)) h' hq.symm⟩
  have HL := Lib.hid hC.len
  generalize wideN imm = W at *
  dsimp only at *
  generalize r.getD kr 0 = rk at *
  generalize r.getD ks 0 = rs at *
  have krI : (kr : Int) < 4 := by omega
  have krI0 : (0 : Int) ≤ (kr : Int) := by omega
  have ksI : (ks : Int) < 4 := by omega
  have ksI0 : (0 : Int) ≤ (ks : Int) := by omega
  have hw1 := sub64_wrap (a := rk) hrs
  have hx1 := sub64_lt rk rs
  generalize sub64 rk rs = t2 at *
  have HF : Hid (∀ w', Holds e w' (pts xb (.cells #[.int .i64 op, .int .i64 kr, .int .i64 ks, .int .i32 imm] 71 (0, 0)) :: cpH b ⟨r, pc, dn, hd⟩ :: R) → Holds e (w'.setCell ⟨b, kr, none⟩ (.int .u64 t2)) (cpH b ⟨r.set kr t2, pc, dn, hd⟩ :: R)) := Lib.hid fun w' h' => cpH.set h'.drop (cp_setR HL.out hr t2)
  clear hi0 hi1 H hC
  go_enter Try.func72, Try.ntmps72
  go_wp2_with fail
  obtain ⟨I, Wf, hI, hW, hWs⟩ := worlds_of H1
  have r1 : ∀ i j, (Wf i).cell? ⟨xb, j, none⟩ = #[Value.int .i64 op, .int .i64 kr, .int .i64 ks, .int .i32 imm][j]? := fun i => (HK.out _ _ (hW i)).1
  have r2 := fun i => (HK.out _ _ (hW i)).2.1
  have r3 := fun i => (HK.out _ _ (hW i)).2.2.1
  have r4 := fun i => (HK.out _ _ (hW i)).2.2.2.1
  have r5 : ∀ i j, (Wf i).frozen? ⟨b, j, none⟩ = false := fun i => (HK.out _ _ (hW i)).2.2.2.2.2.1
  refine wp_region_last (C := fun w' => ∃ i, w' = Wf i) rfl (by kernel_rfl) (by kernel_rfl) rfl (hWs _ (H1.drawn _)) ?_
  simp only [List.dropLast]
  (repeat (go_big_quiet_step ((go_at_call 88; exact quietH (CW.out _ _ (hW _)) hWs)))); refine wpQuiet_nil ?_; intro _ hw'; obtain ⟨nq, hw''⟩ := hw'; subst hw''
  unfold Oper.wp
  go_simp
  have HN := hW nq
  generalize Wf nq = w4 at *
  clear r1 r2 r3 r4 r5 hW hWs CW
  go_wp2_with fail
  go_ret
  exact ⟨rfl, HF.out _ HN⟩
set_option maxRecDepth 100000 in
set_option maxHeartbeats 1000000 in
theorem cpuXor (hC : CpOk C) (hr : kr < 4) (hs : ks < 4) (hi0 : -2147483648 ≤ imm) (hi1 : imm ≤ 2147483647) (H : Holds e w (cpH b C :: R)) :
    Calls Try.prog 76 #[.pointer (some ⟨b, 0, none⟩), mv, InsS.val ⟨op, kr, ks, imm⟩] w (Ret e (.int .i64 0) (cpH b ⟨C.r.set kr (C.r.getD kr 0 ^^^ C.r.getD ks 0), C.pc, C.done, C.halted⟩ :: R)) := by
  obtain ⟨xb, hxb⟩ : ∃ xb, w.heap.size = xb := ⟨_, rfl⟩
  have H1 := H.alloc (.cells #[.int .i64 op, .int .i64 kr, .int .i64 ks, .int .i32 imm] 71)
  rw [hxb] at H1
  have CW := Lib.hid fun w' X (h' : Holds e w' X) => cpuWide ⟨op, kr, ks, imm⟩ hi0 hi1 h'
  unfold InsS.val at CW ⊢
  dsimp only at CW ⊢
  have hW64 := wideN_lt imm
  have hrk := hC.reg kr
  have hrs := hC.reg ks
  have hpc64 := hC.pc
  obtain ⟨r, pc, dn, hd⟩ := C
  have HK : Hid (∀ w' X, Holds e w' (pts xb (.cells #[.int .i64 op, .int .i64 kr, .int .i64 ks, .int .i32 imm] 71 (0, 0)) :: cpH b ⟨r, pc, dn, hd⟩ :: X) → (∀ j, (w').cell? ⟨xb, j, none⟩ = #[Value.int .i64 op, .int .i64 kr, .int .i64 ks, .int .i32 imm][j]?) ∧ (w').cell? ⟨b, kr, none⟩ = some (.int .u64 (r.getD kr 0 : Nat)) ∧ (w').cell? ⟨b, ks, none⟩ = some (.int .u64 (r.getD ks 0 : Nat)) ∧ (w').cell? ⟨b, 4, none⟩ = some (.int .u64 (pc : Nat)) ∧ (w').cell? ⟨b, 6, none⟩ = some (.bool hd) ∧ (∀ j, (w').frozen? ⟨b, j, none⟩ = false) ∧ b ≠ xb) := Lib.hid fun w' X h' => ⟨h'.cells, cpH.cell h'.swap (cp_reg hC.len hr), cpH.cell h'.swap (cp_reg hC.len hs), cpH.cell h'.swap (cp_pc hC.len), cpH.cell h'.swap (cp_halted hC.len), fun j => cpH.frozen h'.swap, fun hq => Holds.ne (o' := .cells (CpS.cells ⟨r, pc, dn, hd⟩).toArray 130 (0, 0)) h' hq.symm⟩
  have HL := Lib.hid hC.len
  generalize wideN imm = W at *
  dsimp only at *
  generalize r.getD kr 0 = rk at *
  generalize r.getD ks 0 = rs at *
  have krI : (kr : Int) < 4 := by omega
  have krI0 : (0 : Int) ≤ (kr : Int) := by omega
  have ksI : (ks : Int) < 4 := by omega
  have ksI0 : (0 : Int) ≤ (ks : Int) := by omega
  have hw1 := u64_xor_nat rk rs hrk hrs
  have hx1 : rk ^^^ rs < 18446744073709551616 := Nat.xor_lt_two_pow (n := 64) hrk hrs
  generalize rk ^^^ rs = t2 at *
  have HF : Hid (∀ w', Holds e w' (pts xb (.cells #[.int .i64 op, .int .i64 kr, .int .i64 ks, .int .i32 imm] 71 (0, 0)) :: cpH b ⟨r, pc, dn, hd⟩ :: R) → Holds e (w'.setCell ⟨b, kr, none⟩ (.int .u64 t2)) (cpH b ⟨r.set kr t2, pc, dn, hd⟩ :: R)) := Lib.hid fun w' h' => cpH.set h'.drop (cp_setR HL.out hr t2)
  clear hi0 hi1 H hC
  go_enter Try.func76, Try.ntmps76
  go_wp2_with fail
  obtain ⟨I, Wf, hI, hW, hWs⟩ := worlds_of H1
  have r1 : ∀ i j, (Wf i).cell? ⟨xb, j, none⟩ = #[Value.int .i64 op, .int .i64 kr, .int .i64 ks, .int .i32 imm][j]? := fun i => (HK.out _ _ (hW i)).1
  have r2 := fun i => (HK.out _ _ (hW i)).2.1
  have r3 := fun i => (HK.out _ _ (hW i)).2.2.1
  have r4 := fun i => (HK.out _ _ (hW i)).2.2.2.1
  have r5 : ∀ i j, (Wf i).frozen? ⟨b, j, none⟩ = false := fun i => (HK.out _ _ (hW i)).2.2.2.2.2.1
  refine wp_region_last (C := fun w' => ∃ i, w' = Wf i) rfl (by kernel_rfl) (by kernel_rfl) rfl (hWs _ (H1.drawn _)) ?_
  simp only [List.dropLast]
  (repeat (go_big_quiet_step ((go_at_call 88; exact quietH (CW.out _ _ (hW _)) hWs)))); refine wpQuiet_nil ?_; intro _ hw'; obtain ⟨nq, hw''⟩ := hw'; subst hw''
  unfold Oper.wp
  go_simp
  have HN := hW nq
  generalize Wf nq = w4 at *
  clear r1 r2 r3 r4 r5 hW hWs CW
  go_wp2_with fail
  go_ret
  exact ⟨rfl, HF.out _ HN⟩
set_option maxRecDepth 100000 in
set_option maxHeartbeats 1000000 in
theorem cpuHalt (hC : CpOk C) (hr : kr < 4) (hs : ks < 4) (hi0 : -2147483648 ≤ imm) (hi1 : imm ≤ 2147483647) (H : Holds e w (cpH b C :: R)) :
    Calls Try.prog 69 #[.pointer (some ⟨b, 0, none⟩), mv, InsS.val ⟨op, kr, ks, imm⟩] w (Ret e (.int .i64 0) (cpH b ⟨C.r, sub64 C.pc 8, C.done, true⟩ :: R)) := by
  obtain ⟨xb, hxb⟩ : ∃ xb, w.heap.size = xb := ⟨_, rfl⟩
  have H1 := H.alloc (.cells #[.int .i64 op, .int .i64 kr, .int .i64 ks, .int .i32 imm] 71)
  rw [hxb] at H1
  have CW := Lib.hid fun w' X (h' : Holds e w' X) => cpuWide ⟨op, kr, ks, imm⟩ hi0 hi1 h'
  unfold InsS.val at CW ⊢
  dsimp only at CW ⊢
  have hW64 := wideN_lt imm
  have hrk := hC.reg kr
  have hrs := hC.reg ks
  have hpc64 := hC.pc
  obtain ⟨r, pc, dn, hd⟩ := C
  have HK : Hid (∀ w' X, Holds e w' (pts xb (.cells #[.int .i64 op, .int .i64 kr, .int .i64 ks, .int .i32 imm] 71 (0, 0)) :: cpH b ⟨r, pc, dn, hd⟩ :: X) → (∀ j, (w').cell? ⟨xb, j, none⟩ = #[Value.int .i64 op, .int .i64 kr, .int .i64 ks, .int .i32 imm][j]?) ∧ (w').cell? ⟨b, kr, none⟩ = some (.int .u64 (r.getD kr 0 : Nat)) ∧ (w').cell? ⟨b, ks, none⟩ = some (.int .u64 (r.getD ks 0 : Nat)) ∧ (w').cell? ⟨b, 4, none⟩ = some (.int .u64 (pc : Nat)) ∧ (w').cell? ⟨b, 6, none⟩ = some (.bool hd) ∧ (∀ j, (w').frozen? ⟨b, j, none⟩ = false) ∧ b ≠ xb) := Lib.hid fun w' X h' => ⟨h'.cells, cpH.cell h'.swap (cp_reg hC.len hr), cpH.cell h'.swap (cp_reg hC.len hs), cpH.cell h'.swap (cp_pc hC.len), cpH.cell h'.swap (cp_halted hC.len), fun j => cpH.frozen h'.swap, fun hq => Holds.ne (o' := .cells (CpS.cells ⟨r, pc, dn, hd⟩).toArray 130 (0, 0)) h' hq.symm⟩
  have HL := Lib.hid hC.len
  generalize wideN imm = W at *
  dsimp only at *
  generalize r.getD kr 0 = rk at *
  generalize r.getD ks 0 = rs at *
  have krI : (kr : Int) < 4 := by omega
  have krI0 : (0 : Int) ≤ (kr : Int) := by omega
  have ksI : (ks : Int) < 4 := by omega
  have ksI0 : (0 : Int) ≤ (ks : Int) := by omega
  have hw1 : IntKind.u64.wrap ((pc : Int) - 8) = (sub64 pc 8 : Int) := sub64_wrap (a := pc) (b := 8) (by decide)
  have hx1 := sub64_lt pc 8
  generalize sub64 pc 8 = t2 at *
  have HF : Hid (∀ w', Holds e w' (pts xb (.cells #[.int .i64 op, .int .i64 kr, .int .i64 ks, .int .i32 imm] 71 (0, 0)) :: cpH b ⟨r, pc, dn, hd⟩ :: R) → Holds e ((w'.setCell ⟨b, 6, none⟩ (.bool true)).setCell ⟨b, 4, none⟩ (.int .u64 t2)) (cpH b ⟨r, t2, dn, true⟩ :: R)) := Lib.hid fun w' h' => cpH.set (cpH.set h'.drop (cp_setHalted (C := ⟨r, pc, dn, hd⟩) HL.out true)) (cp_setPc (C := ⟨r, pc, dn, true⟩) HL.out t2)
  obtain ⟨k1, k2, k3, k4, k5, k6, k7⟩ := HK.out _ _ H1
  clear hi0 hi1 hC
  go_enter Try.func69, Try.ntmps69
  go_wp2_with fail
  go_ret
  exact ⟨rfl, HF.out _ H1⟩
set_option maxRecDepth 100000 in
set_option maxHeartbeats 1000000 in
theorem cpuJump (hC : CpOk C) (hr : kr < 4) (hs : ks < 4) (hi0 : -2147483648 ≤ imm) (hi1 : imm ≤ 2147483647) (H : Holds e w (cpH b C :: R)) :
    Calls Try.prog 75 #[.pointer (some ⟨b, 0, none⟩), mv, InsS.val ⟨op, kr, ks, imm⟩] w (Ret e (.int .i64 0) (cpH b ⟨C.r, if C.r.getD kr 0 = 0 then C.pc else add64 C.pc (mul64 8 (sub64 (wideN imm) 1)), C.done, C.halted⟩ :: R)) := by
  obtain ⟨xb, hxb⟩ : ∃ xb, w.heap.size = xb := ⟨_, rfl⟩
  have H1 := H.alloc (.cells #[.int .i64 op, .int .i64 kr, .int .i64 ks, .int .i32 imm] 71)
  rw [hxb] at H1
  have CW := Lib.hid fun w' X (h' : Holds e w' X) => cpuWide ⟨op, kr, ks, imm⟩ hi0 hi1 h'
  unfold InsS.val at CW ⊢
  dsimp only at CW ⊢
  have hW64 := wideN_lt imm
  have hrk := hC.reg kr
  have hrs := hC.reg ks
  have hpc64 := hC.pc
  obtain ⟨r, pc, dn, hd⟩ := C
  have HK : Hid (∀ w' X, Holds e w' (pts xb (.cells #[.int .i64 op, .int .i64 kr, .int .i64 ks, .int .i32 imm] 71 (0, 0)) :: cpH b ⟨r, pc, dn, hd⟩ :: X) → (∀ j, (w').cell? ⟨xb, j, none⟩ = #[Value.int .i64 op, .int .i64 kr, .int .i64 ks, .int .i32 imm][j]?) ∧ (w').cell? ⟨b, kr, none⟩ = some (.int .u64 (r.getD kr 0 : Nat)) ∧ (w').cell? ⟨b, ks, none⟩ = some (.int .u64 (r.getD ks 0 : Nat)) ∧ (w').cell? ⟨b, 4, none⟩ = some (.int .u64 (pc : Nat)) ∧ (w').cell? ⟨b, 6, none⟩ = some (.bool hd) ∧ (∀ j, (w').frozen? ⟨b, j, none⟩ = false) ∧ b ≠ xb) := Lib.hid fun w' X h' => ⟨h'.cells, cpH.cell h'.swap (cp_reg hC.len hr), cpH.cell h'.swap (cp_reg hC.len hs), cpH.cell h'.swap (cp_pc hC.len), cpH.cell h'.swap (cp_halted hC.len), fun j => cpH.frozen h'.swap, fun hq => Holds.ne (o' := .cells (CpS.cells ⟨r, pc, dn, hd⟩).toArray 130 (0, 0)) h' hq.symm⟩
  have HL := Lib.hid hC.len
  generalize wideN imm = W at *
  dsimp only at *
  generalize r.getD kr 0 = rk at *
  generalize r.getD ks 0 = rs at *
  have krI : (kr : Int) < 4 := by omega
  have krI0 : (0 : Int) ≤ (kr : Int) := by omega
  have ksI : (ks : Int) < 4 := by omega
  have ksI0 : (0 : Int) ≤ (ks : Int) := by omega
  have hw1 : IntKind.u64.wrap ((W : Int) - 1) = (sub64 W 1 : Int) := sub64_wrap (a := W) (b := 1) (by decide)
  have hx1 := sub64_lt W 1
  generalize sub64 W 1 = t1 at *
  have hw2 : IntKind.u64.wrap ((8 : Int) * (t1 : Int)) = (mul64 8 t1 : Int) := mul64_wrap 8 t1
  have hx2 := mul64_lt 8 t1
  generalize mul64 8 t1 = t2 at *
  have hw3 := add64_wrap pc t2
  have hx3 := add64_lt pc t2
  generalize add64 pc t2 = t3 at *
  have HF : Hid (∀ w', Holds e w' (pts xb (.cells #[.int .i64 op, .int .i64 kr, .int .i64 ks, .int .i32 imm] 71 (0, 0)) :: cpH b ⟨r, pc, dn, hd⟩ :: R) → Holds e (w'.setCell ⟨b, 4, none⟩ (.int .u64 t3)) (cpH b ⟨r, t3, dn, hd⟩ :: R)) := Lib.hid fun w' h' => cpH.set h'.drop (cp_setPc (C := ⟨r, pc, dn, hd⟩) HL.out t3)
  obtain ⟨np, hnp⟩ : ∃ np, (if rk = 0 then pc else t3) = np := ⟨_, rfl⟩
  rw [hnp]
  have HNP := Lib.hid hnp
  clear hi0 hi1 H hC hnp
  go_enter Try.func75, Try.ntmps75
  go_wp2_with fail
  obtain ⟨I, Wf, hI, hW, hWs⟩ := worlds_of H1
  have r1 : ∀ i j, (Wf i).cell? ⟨xb, j, none⟩ = #[Value.int .i64 op, .int .i64 kr, .int .i64 ks, .int .i32 imm][j]? := fun i => (HK.out _ _ (hW i)).1
  have r2 := fun i => (HK.out _ _ (hW i)).2.1
  refine wp_region_holds hWs H1 (by kernel_rfl) (by kernel_rfl) ?_
  (repeat (go_big_quiet_step (fail))); refine wpQuiet_nil ?_; intro _ hw'; obtain ⟨nq, hw''⟩ := hw'; subst hw''
  have H2 := hW nq
  generalize Wf nq = w4 at *
  clear r1 r2 hW hWs H1
  by_cases h0 : rk = 0
  · have d0 : ((rk : Int) != 0) = false := by simp [h0]
    have HH := Lib.hid H2.drop
    obtain rfl : pc = np := by have h := HNP.out; rwa [if_pos h0] at h
    clear H2 h0
    go_wp2_with fail
    go_ret
    exact ⟨rfl, HH.out⟩
  · have d0 : ((rk : Int) != 0) = true := by simp; omega
    have H1 := H2
    obtain rfl : t3 = np := by have h := HNP.out; rwa [if_neg h0] at h
    clear h0 H2
    go_wp2_with fail
    obtain ⟨I, Wf, hI, hW, hWs⟩ := worlds_of H1
    have r1 : ∀ i j, (Wf i).cell? ⟨xb, j, none⟩ = #[Value.int .i64 op, .int .i64 kr, .int .i64 ks, .int .i32 imm][j]? := fun i => (HK.out _ _ (hW i)).1
    have r2 := fun i => (HK.out _ _ (hW i)).2.1
    have r3 := fun i => (HK.out _ _ (hW i)).2.2.1
    have r4 := fun i => (HK.out _ _ (hW i)).2.2.2.1
    have r5 : ∀ i j, (Wf i).frozen? ⟨b, j, none⟩ = false := fun i => (HK.out _ _ (hW i)).2.2.2.2.2.1
    refine wp_region_last (C := fun w' => ∃ i, w' = Wf i) rfl (by kernel_rfl) (by kernel_rfl) rfl (hWs _ (H1.drawn _)) ?_
    simp only [List.dropLast]
    (repeat (go_big_quiet_step ((go_at_call 88; exact quietH (CW.out _ _ (hW _)) hWs)))); refine wpQuiet_nil ?_; intro _ hw'; obtain ⟨nq, hw''⟩ := hw'; subst hw''
    unfold Oper.wp
    go_simp
    have HN := hW nq
    generalize Wf nq = w4 at *
    clear r1 r2 r3 r4 r5 hW hWs CW
    go_wp2_with fail
    go_ret
    exact ⟨rfl, HF.out _ HN⟩
end
end Go.Proofs.Ytjbphdjheklhbaa
