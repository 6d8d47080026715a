/-
  Package cpu: Put.
-/
import Derived.Test.YtjbphdjheklhbaaCp9
namespace Go.Proofs.Ytjbphdjheklhbaa
open Go.RowKit

def insB (x : InsS) : List UInt8 := [UInt8.ofNat x.op.toNat, UInt8.ofNat x.r.toNat, UInt8.ofNat x.s.toNat, 0] ++ le 4 (x.imm % 4294967296).toNat
theorem insB_len (x : InsS) : (insB x).length = 8 := by simp [insB, le_length]
theorem insB_lens (l : List InsS) : (l.flatMap insB).length = l.length * 8 := by
  induction l with
  | nil => rfl
  | cons x l ih => rw [List.flatMap_cons, List.length_append, insB_len, ih, List.length_cons]; omega
theorem icells_len (l : List InsS) : (l.flatMap InsS.cells).length = l.length * 4 := by
  induction l with
  | nil => rfl
  | cons b l ih => simp [InsS.cells, ih]; omega
theorem icells_at {l : List InsS} {k : Nat} {b : InsS} (h : l[k]? = some b) (j : Nat) (hj : j < 4) : (l.flatMap InsS.cells)[k * 4 + j]? = b.cells[j]? := by
  induction l generalizing k with
  | nil => simp at h
  | cons x l ih =>
    cases k with
    | zero =>
      simp at h
      subst h
      rw [Nat.zero_mul, Nat.zero_add, List.flatMap_cons, List.getElem?_append_left (by simp [InsS.cells]; omega)]
    | succ k =>
      simp at h
      rw [List.flatMap_cons, List.getElem?_append_right (by simp [InsS.cells]; omega), ← ih h]
      congr 1
      simp [InsS.cells]
      omega
def putE (l : List InsS) : Nat := if l.all mayI then 0 else 1
def putB (l : List InsS) : List UInt8 := if l.all mayI then l.flatMap insB else []

section
variable {e : Env} {w : World} {R : List HP}
set_option maxRecDepth 100000 in
set_option maxHeartbeats 2000000 in
theorem cpuPut (l : List InsS) (hl : l.length ≤ 100) (hi : ∀ x ∈ l, -2147483648 ≤ x.imm ∧ x.imm ≤ 2147483647) (v : Value) (hr : ∀ w', Holds e w' R → Reads w' v 4 l.length (l.flatMap InsS.cells)) (H : Holds e w R) :
    Calls Try.prog 27 #[v] w (RetEx e (fun v' : Value => .tuple #[v', .int .i64 (putE l)]) (fun v' => bts v' (putB l) :: R)) := by
  obtain ⟨ad, c, rfl⟩ := (hr w H).shape
  obtain ⟨len, hlen⟩ : ∃ len, l.length = len := ⟨_, rfl⟩
  have HLEN := Lib.hid hlen
  rw [hlen] at hr hl ⊢
  have HR := Lib.hid hr
  have HI := Lib.hid hi
  have CM := Lib.hid fun w' X x (h' : Holds e w' X) => cpuMay x h'
  have HP : Hid (∀ w' blk X (n : Nat), Holds e w' (pts blk (.cells #[.int .u64 n] 28 (0, 0)) :: X) → Calls Try.prog 54 #[.int .i64 4, .slice (some ⟨blk, 0, none⟩) 1 1] w' (RetEx e (fun v : Value => v) (fun v => bts v (le 4 n) :: X))) := Lib.hid fun w' blk X n h' => by
    have := numPut_any h' 4 (by omega) (by omega) [n] (by simp) (.slice (some ⟨blk, 0, none⟩) 1 1) (fun w' h'' => ⟨rfl, .inr ⟨_, _, rfl, Nat.le_refl _, fun j u hj => by rw [Addr.add_at, Nat.zero_add, h''.cells]; simpa [u64v] using hj⟩⟩)
    exact (this.mono fun en w'' ⟨v, h1, h2⟩ => ⟨v, h1, by simpa using h2.d1⟩)
  obtain ⟨rE, hrE⟩ : ∃ rE, putE l = rE := ⟨_, rfl⟩
  obtain ⟨rB, hrB⟩ : ∃ rB, putB l = rB := ⟨_, rfl⟩
  have HE := Lib.hid hrE
  have HB := Lib.hid hrB
  rw [hrE, hrB]
  clear hr hi hlen hrE hrB
  go_enter Try.func27, Try.ntmps27
  go_wp2_with fail
  go_loopw [4, 9] (fun o i wr => ∃ (k : Nat) (ov : Value), ov = o ∧ k ≤ len ∧ i = .int .i64 (k : Nat) ∧ Hid (∀ x ∈ l.take k, mayI x = true) ∧ Holds e wr (row ov 5 1 (k * 8) (u8v ((l.take k).flatMap insB)) :: R)) (fun _ i _ => len - (Go.RowKit.intOf i).toNat)
  case atStart => exact ⟨0, _, rfl, by omega, rfl, Lib.hid (by simp), row.nil _ 1 H⟩
  case round =>
    clear H
    obtain ⟨k, ov, rfl, hk, rfl, hall, HX⟩ := hrel
    by_cases hlt : k < len
    · obtain ⟨x, hxk⟩ : ∃ x, l[k]? = some x := ⟨_, List.getElem?_eq_getElem (by rw [HLEN.out]; exact hlt)⟩
      have hxi := HI.out x (List.mem_of_getElem? hxk)
      obtain ⟨g, o, rfl, hrr⟩ := (HR.out _ HX.drop).at (by omega)
      have c0 : wr.cell? ⟨g, o + k * 4, none⟩ = some (.int .i64 x.op) := hrr _ _ (icells_at hxk 0 (by omega))
      have c1 : wr.cell? ⟨g, o + k * 4 + 1, none⟩ = some (.int .i64 x.r) := by rw [Nat.add_assoc]; exact hrr _ _ (icells_at hxk 1 (by omega))
      have c2 : wr.cell? ⟨g, o + k * 4 + 2, none⟩ = some (.int .i64 x.s) := by rw [Nat.add_assoc]; exact hrr _ _ (icells_at hxk 2 (by omega))
      have c3 : wr.cell? ⟨g, o + k * 4 + 3, none⟩ = some (.int .i32 x.imm) := by rw [Nat.add_assoc]; exact hrr _ _ (icells_at hxk 3 (by omega))
      have HXK := Lib.hid hxk
      have htk : l.take (k + 1) = l.take k ++ [x] := by rw [List.take_add_one, hxk]; rfl
      have HTK := Lib.hid htk
      have CMx := Lib.hid fun w' X (h' : Holds e w' X) => CM.out w' X x h'
      have HME : Hid (mayI x = mayI x) := Lib.hid rfl
      obtain ⟨bx, hbx⟩ : ∃ bx, wr.heap.size = bx := ⟨_, rfl⟩
      have HA := HX.alloc (.cells #[.int .i64 x.op, .int .i64 x.r, .int .i64 x.s, .int .i32 x.imm] 71)
      rw [hbx] at HA
      obtain ⟨mx, hmx⟩ : ∃ mx, mayI x = mx := ⟨_, rfl⟩
      rw [hmx] at CMx
      have HMX := Lib.hid hmx
      unfold InsS.val at CMx
      clear hrr hxk htk HX hmx HME
      cases mx
      · have HF : Hid (rE = 1 ∧ rB = []) := Lib.hid (by
          have hnot : l.all mayI = false := by
            rw [List.all_eq_false]
            exact ⟨x, List.mem_of_getElem? HXK.out, by rw [HMX.out]; decide⟩
          rw [← HE.out, ← HB.out]
          unfold putE putB
          rw [hnot]
          exact ⟨rfl, rfl⟩)
        go_wp2_with fail
        refine (CMx.out _ _ HA).mono ?_
        rintro en w2 ⟨rfl, H2⟩
        have HH := Lib.hid (bts.nil H2.drop.drop)
        clear CMx HA H2
        go_wp2_with fail
        go_ret2
        obtain ⟨q1, q2⟩ := HF.out
        exact ⟨.slice none 0 0, by rw [q1]; rfl, by rw [q2]; exact HH.out⟩
      · obtain ⟨op, rr, ss, imm⟩ := x
        have hm := HMX.out
        unfold mayI at hm
        simp only [Bool.and_eq_true, decide_eq_true_eq] at hm
        obtain ⟨⟨⟨⟨⟨m1, m2⟩, m3⟩, m4⟩, m5⟩, m6⟩ := hm
        dsimp only at *
        obtain ⟨op, rfl⟩ : ∃ q : Nat, op = q := ⟨op.toNat, by omega⟩
        obtain ⟨rr, rfl⟩ : ∃ q : Nat, rr = q := ⟨rr.toNat, by omega⟩
        obtain ⟨ss, rfl⟩ : ∃ q : Nat, ss = q := ⟨ss.toNat, by omega⟩
        obtain ⟨n32, hn32⟩ : ∃ n32 : Nat, (imm % 4294967296).toNat = n32 := ⟨_, rfl⟩
        have hw1 : IntKind.u32.wrap imm = (n32 : Int) := by rw [IntKind.wrap_u32']; omega
        have hn64 : n32 < 4294967296 := by omega
        have HALL : Hid (∀ y ∈ l.take (k + 1), mayI y = true) := Lib.hid (by
          intro y hy
          rw [HTK.out] at hy
          rcases List.mem_append.1 hy with hy | hy
          · exact hall.out y hy
          · have : y = ⟨op, rr, ss, imm⟩ := by simpa using hy
            rw [this]; exact HMX.out)
        have HBY : Hid (insB ⟨op, rr, ss, imm⟩ = [UInt8.ofNat op, UInt8.ofNat rr, UInt8.ofNat ss, 0] ++ le 4 n32) := Lib.hid (by unfold insB; dsimp only; rw [hn32]; simp)
        have o8 : op < 8 := by omega
        have r8 : rr < 4 := by omega
        have s8 : ss < 4 := by omega
        have u1 : u8v [UInt8.ofNat op, UInt8.ofNat rr, UInt8.ofNat ss, 0] = [.int .u8 op, .int .u8 rr, .int .u8 ss, .int .u8 0] := by
          have e1 : (UInt8.ofNat op).toNat = op := by rw [UInt8.toNat_ofNat']; omega
          have e2 : (UInt8.ofNat rr).toNat = rr := by rw [UInt8.toNat_ofNat']; omega
          have e3 : (UInt8.ofNat ss).toNat = ss := by rw [UInt8.toNat_ofNat']; omega
          simp [u8v, e1, e2, e3]
        have HU := Lib.hid u1
        clear m1 m2 m3 m4 m5 m6 hn32 u1
        go_wp2_with fail
        refine (CMx.out _ _ HA).mono ?_
        rintro en w2 ⟨rfl, H2⟩
        have hcx := H2.cells
        clear CMx HA
        have HA2 : Holds e (w2.alloc (.cells #[.int .u8 op, .int .u8 rr, .int .u8 ss, .int .u8 0] 5)) (row ov 5 1 (k * 8) (u8v ((l.take k).flatMap insB)) :: pts bx (.cells #[.int .i64 op, .int .i64 rr, .int .i64 ss, .int .i32 imm] 71 (0, 0)) :: R) := (H2.alloc _).re 3 [2, 1]
        have HRL := reads_lits w2 [.int .u8 op, .int .u8 rr, .int .u8 ss, .int .u8 0] 5 4 1 rfl
        clear H2
        go_wp2_with (at_builtin; refine wpList_append_sl rfl (.tmp 16) _ _ rfl 5 1 1 elem_u8 ov (k * 8) (u8v ((l.take k).flatMap insB)) rfl HA2 (.slice (some ⟨w2.heap.size, 0, none⟩) 4 4) 4 [.int .u8 op, .int .u8 rr, .int .u8 ss, .int .u8 0] rfl HRL (by simp [Value.oneCell']) ?_ ?_ ?_)
        · unfold maxLen; omega
        · omega
        intro v3 w3 H3
        have hcx3 := H3.swap.cells
        clear HA2 HRL hcx
        go_wp2_with fail
        refine (HP.out _ _ _ _ (H3.alloc _)).mono ?_
        rintro en w4 ⟨pv, rfl, H4⟩
        have HRL : Reads w4 pv 1 4 (u8v (le 4 n32)) := by
          have h := bts.reads H4
          unfold RdB at h
          rw [le_length] at h
          exact h
        have H5 := H4.swap
        clear H3 H4 hcx3
        go_wp2_with (at_builtin; refine wpList_append_sl rfl (.tmp 28) _ _ rfl 5 1 1 elem_u8 v3 (k * 8 + 4) (u8v ((l.take k).flatMap insB) ++ [.int .u8 op, .int .u8 rr, .int .u8 ss, .int .u8 0]) rfl H5 pv 4 (u8v (le 4 n32)) rfl HRL (u8v_one _) ?_ ?_ ?_)
        · unfold maxLen; omega
        · omega
        intro v6 w6 H6
        have HF : Hid (Holds e w6 (row v6 5 1 ((k + 1) * 8) (u8v ((l.take (k + 1)).flatMap insB)) :: R)) := Lib.hid (by
          rw [HTK.out, List.flatMap_append, List.flatMap_singleton, HBY.out, u8v_append, u8v_append, HU.out]
          have e1 : (k + 1) * 8 = k * 8 + 4 + 4 := by omega
          rw [e1]
          exact H6.re 3 [0])
        clear H5 HRL H6
        go_wp2_with fail
        go_roundw
        case rel => exact ⟨k + 1, v6, rfl, by omega, by go_num, HALL, HF.out⟩
        case measure => simp [Go.RowKit.intOf]; omega
    · obtain rfl : len = k := by omega
      have HF : Hid (rE = 0 ∧ rB = l.flatMap insB) := Lib.hid (by
        have hyes : l.all mayI = true := by
          rw [List.all_eq_true]
          intro y hy
          exact hall.out y (by rw [List.take_of_length_le (by rw [HLEN.out]; exact Nat.le_refl _)]; exact hy)
        rw [← HE.out, ← HB.out]
        unfold putE putB
        rw [hyes]
        exact ⟨rfl, rfl⟩)
      have HH := Lib.hid HX
      clear HX
      go_wp2_with fail
      go_ret2
      obtain ⟨q1, q2⟩ := HF.out
      refine ⟨ov, by rw [q1]; rfl, ?_⟩
      rw [q2]
      have h := HH.out
      rw [List.take_of_length_le (by rw [HLEN.out]; exact Nat.le_refl _)] at h
      unfold bts
      rw [insB_lens, HLEN.out]
      exact h
end
end Go.Proofs.Ytjbphdjheklhbaa
