/-
  Package model: read.
-/
import Derived.Test.YtjbphdjheklhbaaMod4
namespace Go.Proofs.Ytjbphdjheklhbaa
open Go.RowKit

theorem madeB (n : Nat) : madeCells #[Value.int .u8 0] n = (u8v (List.replicate n 0)).toArray := by
  apply Array.toList_inj.1
  simp [madeCells, u8v, Array.toList_range, List.map_const', Nat.mod_one]
theorem mkB (n : Nat) (hn : n ≤ 4096) (W : World) : (Instr.makeSlice 22 (.int .i64 n) (.int .i64 n)).run Try.prog W = .ok (.slice (some ⟨W.heap.size, 0, none⟩) n n) (W.alloc (.cells (u8v (List.replicate n 0)).toArray 5)) := by
  obtain ⟨i0, hi, hz0, hz1, hz2⟩ := info_parts (P := Try.prog) (e := 5) (z := .int .u8 0) (size := 1) (bytes := 1) (by kernel_rfl)
  have h := run_make (P := Try.prog) W 22 5 i0 (.int .u8 0) (by kernel_rfl) hi hz0 .i64 .i64 (n : Int) (n : Int) (by omega) (by omega) (by rw [hz2]; omega) (by omega)
  rw [hz1] at h
  simpa [madeB, Value.cells] using h
def ansVal (E : Int) (v : Value) : Value := .agg #[.int .i64 E, .int .i64 0, v]
/-- What is read, or nothing. -/
def rdE (M : List Pg) (a : Nat) (n : Int) (u : Nat) : List UInt8 := if chk M a n u = 0 then rdb M a n.toNat else []
theorem bts_made {e : Env} {w : World} {R : List HP} {b : Nat} {l : List UInt8} (H : Holds e w (pts b (outObj l) :: R)) (hl : l.length ≤ 4096) : Holds e w (bts (.slice (some ⟨b, 0, none⟩) l.length l.length) l :: R) :=
  row.made H (Nat.le_refl _) (by unfold maxLen; omega) (by simp) (by rw [Nat.mul_one, List.take_of_length_le (by simp)])

section
variable {e : Env} {w : World} {R : List HP} {m : Nat} {M : List Pg}
set_option maxRecDepth 100000 in
set_option maxHeartbeats 1000000 in
theorem modRead {kind perm n : Int} {a : Nat} (ha : a < 18446744073709551616) (hn0 : -9223372036854775808 ≤ n) (hn1 : n ≤ 9223372036854775807) {d : Value} (u : Nat) (hu : u = 1 ∨ u = 2 ∨ u = 4) (hd : ∃ ad l c, d = .slice ad l c) (H : Holds e w (modH m M :: R)) :
    Calls Try.prog 64 #[.pointer (some ⟨m, 0, none⟩), opVal kind perm n a d, .int .i64 u] w
      (RetEx e (fun v : Value => ansVal (chk M a n u) v) (fun v => bts v (rdE M a n u) :: modH m M :: R)) := by
  obtain ⟨ad, c, l, rfl⟩ := hd
  have hmf : ∀ (fn : Fn) (first cap : Array Value) (w : World), (Instr.makeFunc fn first cap).run Try.prog w = .ok (.func fn first cap) w := fun _ _ _ _ => rfl
  have H1 := (H.alloc (opObj kind perm n a (.slice ad c l))).alloc (.cells #[.int .i64 0, .int .i64 0, .slice none 0 0] 104)
  rw [World.size_alloc] at H1
  generalize hbx : w.heap.size = bx at H1
  have CM : Hid (∀ w', Holds e w' (pts (bx + 1) (.cells #[.int .i64 0, .int .i64 0, .slice none 0 0] 104) :: pts bx (opObj kind perm n a (.slice ad c l)) :: modH m M :: R) → Calls Try.prog 83 #[.pointer (some ⟨m, 0, none⟩), .int .u64 a, .int .i64 n, .int .i64 u] w' (Ret e (.int .i64 (chk M a n u)) (pts (bx + 1) (.cells #[.int .i64 0, .int .i64 0, .slice none 0 0] 104) :: pts bx (opObj kind perm n a (.slice ad c l)) :: modH m M :: R))) := Lib.hid fun w' h =>
    retC (modMay (h.re 3 [2, 0, 1]) a ha n hn0 hn1 u hu) fun w'' h => h.re 3 [1, 2, 0]
  have HCE : Hid (∀ w' (T : List HP), Holds e w' (pts bx (opObj kind perm n a (.slice ad c l)) :: T) → w'.cell? ⟨bx, 2, none⟩ = some (.int .i64 n) ∧ w'.cell? ⟨bx, 3, none⟩ = some (.int .u64 a)) := Lib.hid fun w' T h => ⟨h.cells 2, h.cells 3⟩
  have H1' := H1
  obtain ⟨q2, q3⟩ := HCE.out _ _ H1.swap
  have HC0 : Hid (chk M a n u = 0 → ∃ N : Nat, n = (N : Int) ∧ N ≤ 64 ∧ There M a N ∧ rdE M a n u = rdb M a N) := Lib.hid fun h => by
    have h0 := h
    unfold chk at h
    split at h
    · cases h
    · refine ⟨n.toNat, by omega, by omega, there_of_chk h, ?_⟩
      unfold rdE; rw [if_pos h0]
  have HC1 : Hid (chk M a n u ≠ 0 → rdE M a n u = []) := Lib.hid fun h => by unfold rdE; rw [if_neg h]
  clear H H1'
  unfold ansVal
  generalize chk M a n u = E at *
  generalize rdE M a n u = out at *
  unfold opVal
  unfold opObj at H1
  have hb64 : -9223372036854775808 ≤ n := hn0
  by_cases hE : E = 0
  · subst hE
    obtain ⟨N, rfl, hN, hT, rfl⟩ := HC0.out rfl
    have hmk := fun W => mkB N (by omega) W
    clear HC0 HC1
    go_enter Try.func64, Try.ntmps64
    go_wp2_with fail
    refine (CM.out _ (by rw [← hbx] at H1 ⊢; exact H1)).mono ?_
    rintro en w1 ⟨rfl, H2⟩
    obtain ⟨r2, r3⟩ := HCE.out _ _ H2.swap
    have f2 := H2.frozen
    have l1 := H2.lt
    have l2 := H2.swap.lt
    have H3 := (H2.alloc (outObj (List.replicate N 0))).alloc (outCell w1.heap.size N)
    rw [World.size_alloc] at H3
    clear q2 q3 H1
    subst hbx
    go_wp2_with fail
    refine (eachRead hN a hT _ (by simp) (H3.re 5 [4, 0, 1, 2, 3])).mono ?_
    rintro en w2 ⟨rfl, H4⟩
    have g0 : w2.cell? ⟨w1.heap.size + 1, 0, none⟩ = some (.slice (some ⟨w1.heap.size, 0, none⟩) N N) := H4.swap.cells 0
    have H5 : Holds e w2 (pts (w.heap.size + 1) (.cells #[.int .i64 0, .int .i64 0, .slice none 0 0] 104) :: pts w1.heap.size (outObj (rdb M a N)) :: modH m M :: R) := H4.re 5 [3, 2, 0]
    have c5 := H5.cells
    have f5 := H5.frozen
    have H6 := ((H5.set 0 (.int .i64 0)).set 1 (.int .i64 0)).set 2 (.slice (some ⟨w1.heap.size, 0, none⟩) N N)
    have HH := Lib.hid H6
    clear H6 H5 H4 H3 H2
    go_wp2_with fail
    refine bodyPost_at HH.out fun w9 H9 => ?_
    have hc9 := H9.cells
    have H7 := bts_made H9.drop (by rw [rdb_length]; omega)
    rw [rdb_length] at H7
    exact bodyPost_ret (v := ansVal 0 (.slice (some ⟨w1.heap.size, 0, none⟩) N N)) (by simp [results, Try.results64, go_sem, ansVal, hc9]) rfl ⟨_, rfl, H7⟩
  · have hEb : ((E : Int) != 0) = true := by simp; omega
    have ho := HC1.out hE
    subst ho
    clear HC0 HC1 hE
    go_enter Try.func64, Try.ntmps64
    go_wp2_with fail
    refine (CM.out _ (by rw [← hbx] at H1 ⊢; exact H1)).mono ?_
    rintro en w1 ⟨rfl, H2⟩
    have c5 := H2.cells
    have f5 := H2.frozen
    have H6 := ((H2.set 0 (.int .i64 E)).set 1 (.int .i64 0)).set 2 (.slice none 0 0)
    have HH := Lib.hid H6
    clear H6 H2 H1
    subst hbx
    go_wp2_with fail
    refine bodyPost_at HH.out fun w9 H9 => ?_
    have hc9 := H9.cells
    exact bodyPost_ret (v := ansVal E (.slice none 0 0)) (by simp [results, Try.results64, go_sem, ansVal, hc9]) rfl ⟨_, rfl, bts.nil H9.drop.drop⟩
end
end Go.Proofs.Ytjbphdjheklhbaa
