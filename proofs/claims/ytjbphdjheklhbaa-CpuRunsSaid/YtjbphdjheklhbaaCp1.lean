/-
  Package cpu: a model as a core: Flat, Fetch; an instruction's number as a word; a cpu's state.
-/
import Derived.Test.YtjbphdjheklhbaaIns
namespace Go.Proofs.Ytjbphdjheklhbaa
open Go.RowKit

/-- A model as a core. -/
def coreV (m : Nat) : Value := .iface 132 (.agg #[memV m, .pointer (some ⟨m, 0, none⟩)])
/-- A number with a sign as a word. -/
def wideN (z : Int) : Nat := (z % 18446744073709551616).toNat
theorem wideN_lt (z : Int) : wideN z < 18446744073709551616 := by unfold wideN; omega
theorem wideN_wrap (z : Int) : IntKind.u64.wrap z = (wideN z : Int) := by rw [IntKind.wrap_u64]; unfold wideN; omega

structure CpS where
  r : List Nat
  pc : Nat
  done : Nat
  halted : Bool
def CpS.cells (C : CpS) : List Value := u64v C.r ++ [.int .u64 C.pc, .int .i64 C.done, .bool C.halted]
def cpH (b : Nat) (C : CpS) : HP := pts b (.cells C.cells.toArray 130 (0, 0))
structure CpOk (C : CpS) : Prop where
  len : C.r.length = 4
  lt : ∀ x ∈ C.r, x < 18446744073709551616
  pc : C.pc < 18446744073709551616
theorem CpOk.reg {C : CpS} (h : CpOk C) (k : Nat) : C.r.getD k 0 < 18446744073709551616 := by
  by_cases hk : k < C.r.length
  · exact h.lt _ (getD_mem hk)
  · simp [List.getD, List.getElem?_eq_none (Nat.le_of_not_lt hk)]
theorem cp_reg {C : CpS} (h : C.r.length = 4) {k : Nat} (hk : k < 4) : C.cells[k]? = some (.int .u64 ((C.r.getD k 0 : Nat) : Int)) := by
  unfold CpS.cells
  rw [List.getElem?_append_left (by simp [u64v]; omega), u64v_get (by omega)]
theorem cp_pc {C : CpS} (h : C.r.length = 4) : C.cells[4]? = some (.int .u64 C.pc) := by
  unfold CpS.cells
  rw [List.getElem?_append_right (by simp [u64v]; omega)]
  simp [u64v, h]
theorem cp_done {C : CpS} (h : C.r.length = 4) : C.cells[5]? = some (.int .i64 C.done) := by
  unfold CpS.cells
  rw [List.getElem?_append_right (by simp [u64v]; omega)]
  simp [u64v, h]
theorem cp_halted {C : CpS} (h : C.r.length = 4) : C.cells[6]? = some (.bool C.halted) := by
  unfold CpS.cells
  rw [List.getElem?_append_right (by simp [u64v]; omega)]
  simp [u64v, h]
theorem cp_setR {C : CpS} (h : C.r.length = 4) {k : Nat} (hk : k < 4) (n : Nat) : C.cells.set k (.int .u64 (n : Int)) = CpS.cells ⟨C.r.set k n, C.pc, C.done, C.halted⟩ := by
  unfold CpS.cells
  rw [List.set_append_left _ _ (by simp [u64v]; omega)]
  simp [u64v, List.map_set]
theorem cp_setPc {C : CpS} (h : C.r.length = 4) (n : Nat) : C.cells.set 4 (.int .u64 (n : Int)) = CpS.cells ⟨C.r, n, C.done, C.halted⟩ := by
  unfold CpS.cells
  rw [List.set_append_right _ _ (by simp [u64v]; omega)]
  simp [u64v, h]
theorem cp_setDone {C : CpS} (h : C.r.length = 4) (n : Nat) : C.cells.set 5 (.int .i64 (n : Int)) = CpS.cells ⟨C.r, C.pc, n, C.halted⟩ := by
  unfold CpS.cells
  rw [List.set_append_right _ _ (by simp [u64v]; omega)]
  simp [u64v, h]
theorem cp_setHalted {C : CpS} (h : C.r.length = 4) (x : Bool) : C.cells.set 6 (.bool x) = CpS.cells ⟨C.r, C.pc, C.done, x⟩ := by
  unfold CpS.cells
  rw [List.set_append_right _ _ (by simp [u64v]; omega)]
  simp [u64v, h]

section
variable {e : Env} {w : World} {R : List HP} {m b : Nat} {M : List Pg} {C : CpS}
theorem cpH.set {k : Nat} {v : Value} {C' : CpS} (H : Holds e w (cpH b C :: R)) (h : C.cells.set k v = C'.cells) : Holds e (w.setCell ⟨b, k, none⟩ v) (cpH b C' :: R) := by
  have h1 := Holds.set (c := C.cells.toArray) H k v
  unfold cpH
  rw [← h]
  simpa using h1
theorem cpH.cell {k : Nat} {v : Value} (H : Holds e w (cpH b C :: R)) (h : C.cells[k]? = some v) : w.cell? ⟨b, k, none⟩ = some v := by
  have h1 := Holds.cells (c := C.cells.toArray) H k
  rw [h1]
  simpa using h
theorem cpH.frozen {k : Nat} (H : Holds e w (cpH b C :: R)) : w.frozen? ⟨b, k, none⟩ = false := Holds.frozen (c := C.cells.toArray) H k
theorem cpuFlat : Calls Try.prog 36 #[.pointer (some ⟨m, 0, none⟩)] w (Quiet w (coreV m)) := by
  have CF := Lib.hid fun w' => hpFlat (w := w') (m := m)
  unfold memV at CF
  go_enter Try.func36, Try.ntmps36
  go_wp2_with fail
  refine (CF.out _).mono ?_
  rintro en w1 ⟨rfl, q, rfl⟩
  go_wp2_with fail
  go_ret
  exact ⟨rfl, _, rfl⟩
set_option maxRecDepth 100000 in
set_option maxHeartbeats 1000000 in
theorem cpuFetch {a : Nat} (ha : a < 18446744073709551616) (n : Int) (hn0 : -9223372036854775808 ≤ n) (hn1 : n ≤ 9223372036854775807) (H : Holds e w (modH m M :: R)) :
    Calls Try.prog 133 #[.agg #[memV m, .pointer (some ⟨m, 0, none⟩)], .int .u64 a, .int .i64 n] w
      (RetEx e (fun d : Value => .tuple #[d, .int .i64 (chk M a n 4)]) (fun d => bts d (rdE M a n 4) :: modH m M :: R)) := by
  have H1 := (H.alloc (.cells #[memV m, .pointer (some ⟨m, 0, none⟩)] 132)).alloc (.cells (OpS.cells ⟨5, 0, n, a, .slice none 0 0, []⟩).toArray 30)
  rw [World.size_alloc] at H1
  have CD : Hid (∀ w' blk, Holds e w' (modH m M :: pts blk (.cells (OpS.cells ⟨5, 0, n, a, .slice none 0 0, []⟩).toArray 30 (0, 0)) :: R) → Calls Try.prog 10 #[.pointer (some ⟨m, 0, none⟩), .slice (some ⟨blk, 0, none⟩) 1 1] w'
      (RetEx e (fun x : Value × Value => x.1) (fun x => row x.1 104 3 1 [.int .i64 (chk M a n 4), .int .i64 0, x.2] :: bts x.2 (rdE M a n 4) :: modH m M :: R))) := Lib.hid fun w' blk h =>
    (modDo1R ⟨5, 0, n, a, .slice none 0 0, []⟩ 4 (.inr ⟨rfl, rfl⟩) hn0 hn1 (.slice (some ⟨blk, 0, none⟩) 1 1) (fun w'' g => reads_op 1 5 rfl g) ⟨ha, fun w'' _ => reads_none _ _, by simp⟩ h).mono fun en w'' ⟨x, h1, h2⟩ => ⟨x, h1, h2.d3⟩
  have H2 : Holds e _ (modH m M :: pts (w.heap.size + 1) (.cells (OpS.cells ⟨5, 0, n, a, .slice none 0 0, []⟩).toArray 30 (0, 0)) :: R) := H1.re 3 [2, 0]
  unfold OpS.cells memV at H2
  unfold OpS.cells at CD
  clear H H1
  generalize rdE M a n 4 = out at *
  generalize chk M a n 4 = E at *
  unfold memV
  go_enter Try.func133, Try.ntmps133
  go_wp2_with fail
  refine (CD.out _ _ H2).mono ?_
  rintro en w1 ⟨⟨v, d⟩, rfl, H3⟩
  dsimp only at *
  obtain ⟨hl, hx⟩ := row.open H3
  rcases hx with ⟨_, h0⟩ | ⟨g, cap, cur, rfl, hc1, hc2, hc3, hc4, H4⟩
  · cases h0
  obtain ⟨av, cv, hdv⟩ := (bts.reads H4.swap).shape
  obtain ⟨lv, hlv⟩ : ∃ lv, out.length = lv := ⟨_, rfl⟩
  rw [hlv] at hdv
  subst hdv
  have hcur : ∀ j, j < 3 → cur[j]? = [Value.int .i64 E, .int .i64 0, .slice av lv cv][j]? := fun j hj => by
    rw [← hc4, List.getElem?_take, if_pos (by omega), Array.getElem?_toList]
  have c0 : w1.cell? ⟨g, 0, none⟩ = some (.int .i64 E) := (H4.cells 0).trans (hcur 0 (by omega))
  have c1 : w1.cell? ⟨g, 1, none⟩ = some (.int .i64 0) := (H4.cells 1).trans (hcur 1 (by omega))
  have c2 : w1.cell? ⟨g, 2, none⟩ = some (.slice av lv cv) := (H4.cells 2).trans (hcur 2 (by omega))
  have HH := Lib.hid H4.drop
  clear H4 H3 H2 hc1 hc2 hc3 hc4 hl hcur hlv CD
  go_wp2_with fail
  go_quiet (fail)
  go_wp2_with fail
  go_ret2
  exact ⟨.slice av lv cv, rfl, (HH.out.alloc _).drop.drewN _⟩

set_option maxRecDepth 100000 in
theorem cpuWide (x : InsS) (h0 : -2147483648 ≤ x.imm) (h1 : x.imm ≤ 2147483647) (H : Holds e w R) : Calls Try.prog 88 #[x.val] w (Ret e (.int .u64 (wideN x.imm)) R) := by
  obtain ⟨op, r, s, imm⟩ := x
  have H1 := (H.alloc (.cells #[.int .i64 op, .int .i64 r, .int .i64 s, .int .i32 imm] 71)).drop
  have HH := Lib.hid H1
  dsimp only at h0 h1
  have hw := wideN_wrap imm
  clear H H1
  unfold InsS.val
  dsimp only
  go_enter Try.func88, Try.ntmps88
  go_wp2_with fail
  go_ret
  exact ⟨rfl, HH.out⟩
end
end Go.Proofs.Ytjbphdjheklhbaa
