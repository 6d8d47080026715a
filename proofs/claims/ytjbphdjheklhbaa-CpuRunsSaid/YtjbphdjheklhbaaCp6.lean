/-
  Package cpu: what an instruction does, as a function; its call.
-/
import Derived.Test.YtjbphdjheklhbaaCp5
namespace Go.Proofs.Ytjbphdjheklhbaa
open Go.RowKit

/-- An instruction, done: the error, the cpu, the pages. -/
def execC (x : InsS) (M : List Pg) (C : CpS) : Nat × CpS × List Pg :=
  match x.op.toNat with
  | 0 => (0, ⟨C.r, sub64 C.pc 8, C.done, true⟩, M)
  | 1 => (0, ⟨C.r.set x.r.toNat (wideN x.imm), C.pc, C.done, C.halted⟩, M)
  | 2 => (0, ⟨C.r.set x.r.toNat (add64 (C.r.getD x.r.toNat 0) (add64 (C.r.getD x.s.toNat 0) (wideN x.imm))), C.pc, C.done, C.halted⟩, M)
  | 3 => (0, ⟨C.r.set x.r.toNat (sub64 (C.r.getD x.r.toNat 0) (C.r.getD x.s.toNat 0)), C.pc, C.done, C.halted⟩, M)
  | 4 => (chk M (add64 (C.r.getD x.s.toNat 0) (wideN x.imm)) 8 1, ldC C x.r.toNat (chk M (add64 (C.r.getD x.s.toNat 0) (wideN x.imm)) 8 1) (unle (rdb M (add64 (C.r.getD x.s.toNat 0) (wideN x.imm)) 8)), M)
  | 5 => (chk M (add64 (C.r.getD x.s.toNat 0) (wideN x.imm)) 8 2, C, stoP M (add64 (C.r.getD x.s.toNat 0) (wideN x.imm)) (le 8 (C.r.getD x.r.toNat 0)))
  | 6 => (0, ⟨C.r, if C.r.getD x.r.toNat 0 = 0 then C.pc else add64 C.pc (mul64 8 (sub64 (wideN x.imm) 1)), C.done, C.halted⟩, M)
  | _ => (0, ⟨C.r.set x.r.toNat (C.r.getD x.r.toNat 0 ^^^ C.r.getD x.s.toNat 0), C.pc, C.done, C.halted⟩, M)
/-- A step: the error, the cpu, the pages. -/
def stepS (M : List Pg) (C : CpS) : Nat × CpS × List Pg :=
  if C.halted = true then (6, C, M) else
  if chk M C.pc 8 4 ≠ 0 then (chk M C.pc 8 4, C, M) else
  if insOk (rdb M C.pc 8) = false then (3, C, M) else
  if (execC (insOf (rdb M C.pc 8)) M ⟨C.r, add64 C.pc 8, C.done, C.halted⟩).1 ≠ 0 then ((execC (insOf (rdb M C.pc 8)) M ⟨C.r, add64 C.pc 8, C.done, C.halted⟩).1, C, M) else
  (0, ⟨(execC (insOf (rdb M C.pc 8)) M ⟨C.r, add64 C.pc 8, C.done, C.halted⟩).2.1.r, (execC (insOf (rdb M C.pc 8)) M ⟨C.r, add64 C.pc 8, C.done, C.halted⟩).2.1.pc, C.done + 1, (execC (insOf (rdb M C.pc 8)) M ⟨C.r, add64 C.pc 8, C.done, C.halted⟩).2.1.halted⟩, (execC (insOf (rdb M C.pc 8)) M ⟨C.r, add64 C.pc 8, C.done, C.halted⟩).2.2)

structure InsOk (x : InsS) : Prop where
  op : 0 ≤ x.op ∧ x.op < 8
  r : 0 ≤ x.r ∧ x.r < 4
  s : 0 ≤ x.s ∧ x.s < 4
  imm : -2147483648 ≤ x.imm ∧ x.imm ≤ 2147483647
theorem CpOk.setR {C : CpS} (h : CpOk C) (k : Nat) {n : Nat} (hn : n < 18446744073709551616) (pc d : Nat) (hp : pc < 18446744073709551616) (x : Bool) : CpOk ⟨C.r.set k n, pc, d, x⟩ := by
  refine ⟨?_, ?_, hp⟩
  · show (C.r.set k n).length = 4
    rw [List.length_set]; exact h.len
  · intro x hx
    rcases List.mem_or_eq_of_mem_set hx with h' | h'
    · exact h.lt x h'
    · rw [h']; exact hn
theorem CpOk.setPc {C : CpS} (h : CpOk C) {n : Nat} (hn : n < 18446744073709551616) (d : Nat) (x : Bool) : CpOk ⟨C.r, n, d, x⟩ := ⟨h.len, h.lt, hn⟩
theorem unle8_lt {l : List UInt8} (h : l.length = 8) : unle l < 18446744073709551616 := by
  have h2 := unle_lt l
  rw [h] at h2
  exact Nat.lt_of_lt_of_le h2 (by decide)
theorem xor64_lt {a b : Nat} (ha : a < 18446744073709551616) (hb : b < 18446744073709551616) : a ^^^ b < 18446744073709551616 := Nat.xor_lt_two_pow (n := 64) ha hb
theorem ldC_ok {C : CpS} (h : CpOk C) (k E : Nat) {n : Nat} (hn : n < 18446744073709551616) : CpOk (ldC C k E n) ∧ (ldC C k E n).done = C.done := by
  unfold ldC
  split
  · exact ⟨h.setR k hn _ _ h.pc _, rfl⟩
  · exact ⟨h, rfl⟩
theorem execC_ok {x : InsS} {M : List Pg} {C : CpS} (h : CpOk C) : CpOk (execC x M C).2.1 ∧ (execC x M C).2.1.done = C.done := by
  have hw := wideN_lt x.imm
  have ha := fun a b => add64_lt a b
  have hs := fun a b => sub64_lt a b
  have hu := fun a => unle8_lt (l := rdb M a 8) (rdb_length _ _ _)
  have hp := h.pc
  have hreg := h.reg
  have hxx := fun k l => xor64_lt (hreg k) (hreg l)
  have hl := fun k E n (hn : n < 18446744073709551616) => ldC_ok h k E hn
  unfold execC
  generalize wideN x.imm = W at *
  generalize x.r.toNat = k at *
  generalize x.s.toNat = l at *
  split
  · exact ⟨h.setPc (hs _ _) _ _, rfl⟩
  · exact ⟨h.setR _ hw _ _ hp _, rfl⟩
  · exact ⟨h.setR _ (ha _ _) _ _ hp _, rfl⟩
  · exact ⟨h.setR _ (hs _ _) _ _ hp _, rfl⟩
  · exact hl _ _ _ (hu _)
  · exact ⟨h, rfl⟩
  · refine ⟨h.setPc ?_ _ _, rfl⟩
    split
    · exact hp
    · exact ha _ _
  · exact ⟨h.setR _ (hxx _ _) _ _ hp _, rfl⟩
theorem execC_mem {x : InsS} {M : List Pg} {C : CpS} (h : (execC x M C).1 ≠ 0) : (execC x M C).2.2 = M := by
  unfold execC at h ⊢
  split at h <;> dsimp only at h ⊢ <;> try rfl
  unfold stoP
  rw [le_length]
  exact if_neg h
theorem stepS_ok {M : List Pg} {C : CpS} (h : CpOk C) : CpOk (stepS M C).2.1 := by
  have h2 := execC_ok (x := insOf (rdb M C.pc 8)) (M := M) (C := ⟨C.r, add64 C.pc 8, C.done, C.halted⟩) (h.setPc (add64_lt _ _) _ _)
  unfold stepS
  repeat' split
  all_goals first | exact h | exact ⟨h2.1.len, h2.1.lt, h2.1.pc⟩

section
variable {e : Env} {w : World} {R : List HP} {m b : Nat} {M : List Pg} {C : CpS}
theorem cpuExec (x : InsS) (hx : InsOk x) (hC : CpOk C) (H : Holds e w (cpH b C :: modH m M :: R)) :
    Calls Try.prog (insF x.op.toNat) #[.pointer (some ⟨b, 0, none⟩), coreV m, x.val] w (Ret e (.int .i64 (execC x M C).1) (cpH b (execC x M C).2.1 :: modH m (execC x M C).2.2 :: R)) := by
  obtain ⟨op, r, s, imm⟩ := x
  obtain ⟨⟨h1, h2⟩, ⟨h3, h4⟩, ⟨h5, h6⟩, h7, h8⟩ := hx
  dsimp only at h1 h2 h3 h4 h5 h6 h7 h8
  obtain ⟨op, rfl⟩ : ∃ q : Nat, op = q := ⟨op.toNat, by omega⟩
  obtain ⟨r, rfl⟩ : ∃ q : Nat, r = q := ⟨r.toNat, by omega⟩
  obtain ⟨s, rfl⟩ : ∃ q : Nat, s = q := ⟨s.toNat, by omega⟩
  have hr : r < 4 := by omega
  have hs : s < 4 := by omega
  have ho : op < 8 := by omega
  clear h1 h2 h3 h4 h5 h6
  unfold execC
  simp only [Int.toNat_natCast]
  match op, ho with
  | 0, _ => exact cpuHalt hC hr hs h7 h8 H
  | 1, _ => exact cpuSet hC hr hs h7 h8 H
  | 2, _ => exact cpuAdd hC hr hs h7 h8 H
  | 3, _ => exact cpuSub hC hr hs h7 h8 H
  | 4, _ => exact cpuLoad hC hr hs h7 h8 H
  | 5, _ => exact cpuStore hC hr hs h7 h8 H
  | 6, _ => exact cpuJump hC hr hs h7 h8 H
  | 7, _ => exact cpuXor hC hr hs h7 h8 H
end
end Go.Proofs.Ytjbphdjheklhbaa
