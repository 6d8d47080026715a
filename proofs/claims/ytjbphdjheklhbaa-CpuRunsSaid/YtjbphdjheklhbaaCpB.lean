/-
  Package cpu: what a cpu tells; layer 48's example.
-/
import Derived.Test.YtjbphdjheklhbaaCpA
namespace Go.Proofs.Ytjbphdjheklhbaa
open Go.RowKit

def lvL : List InsS := [⟨1, 0, 0, 5⟩, ⟨2, 0, 0, 2⟩, ⟨0, 0, 0, 0⟩]
def lvO (v : Value) : List OpS := [⟨0, 7, 0, 0, .slice none 0 0, []⟩, ⟨4, 0, 0, 0, v, putB lvL⟩]
def lvC : CpS := ⟨[0, 0, 0, 0], 0, 0, false⟩
theorem lv_run (v : Value) (p q : Nat × Nat) : (runF 9 (runP [] (lvO v) [p, q]) lvC).1 = 3 ∧ (runF 9 (runP [] (lvO v) [p, q]) lvC).2.1 = 0 ∧ (runF 9 (runP [] (lvO v) [p, q]) lvC).2.2.1 = ⟨[12, 0, 0, 0], 16, 3, true⟩ := by
  refine ⟨?_, ?_, ?_⟩ <;> kernel_rfl

section
variable {e : Env} {w : World} {R : List HP} {m b : Nat} {M : List Pg} {C : CpS}
set_option maxRecDepth 100000 in
theorem cpuHalted (hC : C.r.length = 4) (H : Holds e w (cpH b C :: R)) : Calls Try.prog 37 #[.pointer (some ⟨b, 0, none⟩)] w (Ret e (.bool C.halted) (cpH b C :: R)) := by
  have c6 := cpH.cell H (cp_halted hC)
  generalize C.halted = x at *
  cases x
  · go_enter Try.func37, Try.ntmps37
    go_wp2_with fail
    go_ret
    exact ⟨rfl, H⟩
  · go_enter Try.func37, Try.ntmps37
    go_wp2_with fail
    go_ret
    exact ⟨rfl, H⟩
set_option maxRecDepth 100000 in
theorem cpuPC (hC : C.r.length = 4) (H : Holds e w (cpH b C :: R)) : Calls Try.prog 40 #[.pointer (some ⟨b, 0, none⟩)] w (Ret e (.int .u64 C.pc) (cpH b C :: R)) := by
  have c6 := cpH.cell H (cp_pc hC)
  generalize C.pc = x at *
  go_enter Try.func40, Try.ntmps40
  go_wp2_with fail
  go_ret
  exact ⟨rfl, H⟩
set_option maxRecDepth 100000 in
theorem cpuDone (hC : C.r.length = 4) (H : Holds e w (cpH b C :: R)) : Calls Try.prog 41 #[.pointer (some ⟨b, 0, none⟩)] w (Ret e (.int .i64 C.done) (cpH b C :: R)) := by
  have c6 := cpH.cell H (cp_done hC)
  generalize C.done = x at *
  go_enter Try.func41, Try.ntmps41
  go_wp2_with fail
  go_ret
  exact ⟨rfl, H⟩
set_option maxRecDepth 100000 in
theorem cpuRegs (hC : C.r.length = 4) (H : Holds e w (cpH b C :: R)) : Calls Try.prog 39 #[.pointer (some ⟨b, 0, none⟩)] w (Ret e (.agg (u64v C.r).toArray) (cpH b C :: R)) := by
  obtain ⟨r, pc, dn, hd⟩ := C
  obtain ⟨r0, r1, r2, r3, hr⟩ := list4 hC
  dsimp only at hr
  subst hr
  have hcb : ∀ j, w.cell? ⟨b, j, none⟩ = #[Value.int .u64 r0, .int .u64 r1, .int .u64 r2, .int .u64 r3, .int .u64 pc, .int .i64 dn, .bool hd][j]? := fun j => Holds.cells (c := #[Value.int .u64 r0, .int .u64 r1, .int .u64 r2, .int .u64 r3, .int .u64 pc, .int .i64 dn, .bool hd]) H j
  have H1 := H.alloc (.cells #[.int .u64 r0, .int .u64 r1, .int .u64 r2, .int .u64 r3] 95)
  have hlt := Holds.lt (o := .cells (CpS.cells ⟨[r0, r1, r2, r3], pc, dn, hd⟩).toArray 130 (0, 0)) H
  go_enter Try.func39, Try.ntmps39
  go_wp2_with fail
  refine bodyPost_at H1 fun w9 H9 => ?_
  have hc9 := H9.cells
  exact bodyPost_ret (v := .agg #[.int .u64 r0, .int .u64 r1, .int .u64 r2, .int .u64 r3]) (by simp [results, Try.results39, go_sem, hc9]) rfl ⟨rfl, H9.drop⟩

set_option maxRecDepth 100000 in
set_option maxHeartbeats 2000000 in
theorem lives48 (H : Holds e w R) : Calls Try.prog 23 #[] w (Ret e (.bool true) R) := by
  have CP : Hid (∀ w' blk X, Holds e w' (pts blk (.cells (lvL.flatMap InsS.cells).toArray 71 (0, 0)) :: X) → Calls Try.prog 27 #[.slice (some ⟨blk, 0, none⟩) 3 3] w' (RetEx e (fun v' : Value => .tuple #[v', .int .i64 0]) (fun v' => bts v' (putB lvL) :: X))) := Lib.hid fun w' blk X h' =>
    (cpuPut lvL (by decide) (by unfold lvL; simp) (.slice (some ⟨blk, 0, none⟩) 3 3) (fun w'' g => reads_op 3 4 rfl g) h').mono fun en w'' ⟨v', h1, h2⟩ => ⟨v', h1, h2.d1⟩
  have CN := Lib.hid fun w' X (h' : Holds e w' X) => modNew h'
  have CD : Hid (∀ w' m v blk X, Holds e w' (modH m [] :: pts blk (.cells ((lvO v).flatMap OpS.cells).toArray 30 (0, 0)) :: bts v (putB lvL) :: X) → Calls Try.prog 10 #[.pointer (some ⟨m, 0, none⟩), .slice (some ⟨blk, 0, none⟩) 2 2] w' (RetEx e (fun x : Value × (Nat × Nat) × (Nat × Nat) => x.1) (fun x => modH m (runP [] (lvO v) [x.2.1, x.2.2]) :: X))) := Lib.hid fun w' m v blk X h' => by
    refine (modDoes (lvO v) (by simp [lvO]) (.slice (some ⟨blk, 0, none⟩) 2 2) (fun w'' g => reads_op 2 5 rfl g) (fun o ho => ?_) (fun o ho => ?_) h').mono fun en w'' ⟨x, h1, h2⟩ => ?_
    · simp only [lvO, List.mem_cons, List.not_mem_nil, or_false] at ho
      rcases ho with rfl | rfl
      · exact .inl rfl
      · exact .inr (.inr rfl)
    · simp only [lvO, List.mem_cons, List.not_mem_nil, or_false] at ho
      rcases ho with rfl | rfl
      · exact ⟨by show 0 < 18446744073709551616; decide, fun w'' _ => reads_none _ _, by simp⟩
      · exact ⟨by show 0 < 18446744073709551616; decide, fun w'' g => bts.reads g.drop, by show (putB lvL).length ≤ _; decide⟩
    · obtain ⟨v', ps⟩ := x
      have hl : ps.length = 2 := h2.purE
      match ps, hl with
      | [p, q], _ => exact ⟨(v', p, q), h1, h2.re 5 [2]⟩
  have CNw : Hid (∀ w' X, Holds e w' X → Calls Try.prog 34 #[.int .u64 0, .slice none 0 0] w' (RetEx e (fun b : Nat => .pointer (some ⟨b, 0, none⟩)) (fun b => cpH b lvC :: X))) := Lib.hid fun w' X h' => cpuNew 0 [] (.slice none 0 0) (fun w'' _ => reads_none _ _) h'
  have CF := Lib.hid fun w' m => cpuFlat (w := w') (m := m)
  have CR : Hid (∀ w' b m v p q X, Holds e w' (cpH b lvC :: modH m (runP [] (lvO v) [p, q]) :: X) → Calls Try.prog 35 #[.pointer (some ⟨b, 0, none⟩), coreV m, .int .i64 9] w' (Ret e (.tuple #[.int .i64 3, .int .i64 0]) (cpH b ⟨[12, 0, 0, 0], 16, 3, true⟩ :: X))) := Lib.hid fun w' b m v p q X h' => by
    obtain ⟨l1, l2, l3⟩ := lv_run v p q
    have h1 := cpuRun (C := lvC) ⟨rfl, by simp [lvC], by decide⟩ 9 (by omega) (by omega) (by decide) h'
    rw [show ((9 : Int).toNat) = 9 from rfl, l1, l2, l3] at h1
    exact retC h1 fun w'' g => g.d1
  have CH : Hid (∀ w' b X, Holds e w' (cpH b ⟨[12, 0, 0, 0], 16, 3, true⟩ :: X) → Calls Try.prog 37 #[.pointer (some ⟨b, 0, none⟩)] w' (Ret e (.bool true) (cpH b ⟨[12, 0, 0, 0], 16, 3, true⟩ :: X))) := Lib.hid fun w' b X h' => cpuHalted rfl h'
  have CG : Hid (∀ w' b X, Holds e w' (cpH b ⟨[12, 0, 0, 0], 16, 3, true⟩ :: X) → Calls Try.prog 39 #[.pointer (some ⟨b, 0, none⟩)] w' (Ret e (.agg #[.int .u64 12, .int .u64 0, .int .u64 0, .int .u64 0]) (cpH b ⟨[12, 0, 0, 0], 16, 3, true⟩ :: X))) := Lib.hid fun w' b X h' => cpuRegs rfl h'
  unfold coreV memV at *
  go_enter Try.func23, Try.ntmps23
  go_wp2_with fail
  refine (CP.out _ _ _ (H.alloc (.cells (lvL.flatMap InsS.cells).toArray 71))).mono ?_
  rintro en w1 ⟨pv, rfl, H1⟩
  obtain ⟨pa, pc, rfl⟩ := (bts.reads H1).shape
  clear CP
  go_wp2_with fail
  refine (CN.out _ _ H1).mono ?_
  rintro en w2 ⟨m, rfl, H2⟩
  clear CN H1
  go_wp2_with fail
  refine (CD.out _ _ _ _ _ (H2.alloc (.cells ((lvO (.slice pa (putB lvL).length pc)).flatMap OpS.cells).toArray 30)).swap).mono ?_
  rintro en w3 ⟨⟨v', p, q⟩, rfl, H3⟩
  dsimp only at H3
  clear CD H2
  go_wp2_with fail
  refine (CNw.out _ _ H3).mono ?_
  rintro en w4 ⟨b, rfl, H4⟩
  clear CNw H3
  go_wp2_with fail
  refine (CF.out _ _).mono ?_
  rintro en w5 ⟨rfl, n5, rfl⟩
  go_wp2_with fail
  refine (CR.out _ _ _ _ _ _ _ (H4.drewN n5)).mono ?_
  rintro en w6 ⟨rfl, H6⟩
  clear CR H4 CF
  go_wp2_with fail
  refine (CH.out _ _ _ H6).mono ?_
  rintro en w7 ⟨rfl, H7⟩
  clear CH H6
  go_wp2_with fail
  refine (CG.out _ _ _ H7).mono ?_
  rintro en w8 ⟨rfl, H8⟩
  have HZ := Lib.hid H8.drop
  have hidx : ∀ w, (Instr.index 95 (.agg #[.int .u64 12, .int .u64 0, .int .u64 0, .int .u64 0]) (.int .i64 0)).run Try.prog w = .ok (.int .u64 12) w := fun w => by kernel_rfl
  clear CG H7 H8
  go_wp2_with fail
  go_ret
  exact ⟨rfl, HZ.out⟩
end
end Go.Proofs.Ytjbphdjheklhbaa
