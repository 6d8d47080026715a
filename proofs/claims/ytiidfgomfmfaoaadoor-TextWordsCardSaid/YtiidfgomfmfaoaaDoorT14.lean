/-
  Text: ops' lines.
-/
import Derived.Test.YtiidfgomfmfaoaaDoorT13
namespace Go.Proofs.YtiidfgomfmfaoaaDoor
open Go.RowKit

/-- The lines of ops: those that may not be have none. -/
def opsL (D : List OpS) : List UInt8 := D.flatMap (fun o => if o.may then opLine o else [])
/-- Addresses are words. -/
def AtOk (D : List OpS) : Prop := ∀ i, 0 ≤ (D.getD i OpS.none).at' ∧ (D.getD i OpS.none).at' < 18446744073709551616

theorem opsL_succ (D : List OpS) (k : Nat) (hk : k < D.length) : opsL (D.take (k + 1)) = opsL (D.take k) ++ (if (D.getD k OpS.none).may then opLine (D.getD k OpS.none) else []) := by
  unfold opsL
  rw [List.take_add_one, List.getElem?_eq_getElem hk, Option.toList_some, List.flatMap_append, List.getD_eq_getElem?_getD, List.getElem?_eq_getElem hk]
  simp

theorem joinTail_len : ∀ r : List (List UInt8), (∀ x ∈ r, x.length ≤ 10000) → (Lib.joinTail [32] r).length ≤ r.length * 10001 := by
  intro r
  induction r with
  | nil => intro _; simp [Lib.joinTail]
  | cons x r ih =>
    intro h
    have h1 := ih fun y hy => h y (by simp [hy])
    have h2 := h x (by simp)
    simp only [Lib.joinTail, List.map_cons, List.flatten_cons, List.length_append, List.length_cons, List.length_nil] at h1 ⊢
    omega
theorem lineL_len (ws : List (List UInt8)) (h : ∀ x ∈ ws, x.length ≤ 10000) : (lineL ws).length ≤ ws.length * 10001 + 1 := by
  unfold lineL
  rw [List.length_append]
  cases ws with
  | nil => rw [Lib.join_nil]; simp
  | cons x r =>
    rw [Lib.join_cons, List.length_append]
    have h1 := joinTail_len r fun y hy => h y (by simp [hy])
    have h2 := h x (by simp)
    simp only [List.length_cons, List.length_nil]
    omega
theorem opLine_len (o : OpS) (hat : 0 ≤ o.at' ∧ o.at' < 18446744073709551616) (hm : o.may = true) : (opLine o).length ≤ 100000 := by
  obtain ⟨hk, hn, hd⟩ := mayO_split hm
  have hw : ∀ x ∈ opWords o, x.length ≤ 10000 := by
    have h1 := names_len o.kind.toNat
    have h2 : ([48, 120] ++ hexD o.at'.toNat : List UInt8).length ≤ 10000 := by have := hexD_len 15 o.at'.toNat (by omega); simp; omega
    have h3 := perm_len o.perm
    have h5 := bytesL_len o.data
    intro x hx
    unfold opWords at hx
    simp only [List.mem_append] at hx
    rcases hx with (((hx | hx) | hx) | hx) | hx
    · simp at hx; rw [hx]; simpa using h1
    · split at hx
      · simp only [List.mem_singleton] at hx; rw [hx]; exact h2
      · simp at hx
    · split at hx
      · simp only [List.mem_singleton] at hx; rw [hx]; omega
      · simp at hx
    · split at hx
      · rename_i h
        have h4 := itoa_len (hn h).1 (hn h).2
        simp only [List.mem_singleton] at hx; rw [hx]; omega
      · simp at hx
    · split at hx
      · simp only [List.mem_singleton] at hx; rw [hx]; omega
      · simp at hx
  have hl : (opWords o).length ≤ 5 := by
    unfold opWords
    simp only [List.length_append, List.length_singleton]
    repeat' split
    all_goals simp
  have := lineL_len _ hw
  unfold opLine
  omega
theorem opsL_len (D : List OpS) (hA : AtOk D) (k : Nat) (hk : k ≤ D.length) : (opsL (D.take k)).length ≤ k * 100000 := by
  induction k with
  | zero => simp [opsL]
  | succ k ih =>
    have h1 := ih (by omega)
    rw [opsL_succ D k (by omega), List.length_append]
    split
    · rename_i h
      have h2 := opLine_len _ (hA k) h
      have h3 := Nat.add_le_add h1 h2
      rwa [← Nat.succ_mul] at h3
    · exact Nat.le_trans h1 (Nat.mul_le_mul_right _ (Nat.le_succ k))

section
variable {w : World}
set_option maxRecDepth 100000 in
set_option maxHeartbeats 4000000 in
theorem textOp (hT : Tab w) (hB : Brj w) (ad : Option Addr) (n c : Nat) (D : List OpS) (hn : n ≤ 500) (hD : OpsR w ad n D) (hA : AtOk D) :
    Calls Tryd.prog 11 #[.slice ad n c] w (Pur w ((Value.string ⟨List.toArray (opsL D)⟩))) := by
  have hl := hD.1
  have HD := Lib.hid hD
  have HT := Lib.hid hT
  have HB := Lib.hid hB
  clear hD hT hB
  have H0 := Holds.start w
  generalize hE : (⟨w.os, w.output, w.tape⟩ : Env) = E at *
  have hbel : ∀ w' A, Holds E w' (base w :: A) → Below w.heap.size w w' := fun w' A h => by subst hE; exact h.below rfl rfl rfl
  have HBL := Lib.hid hbel
  clear hE hbel
  go_enter Tryd.func11, Tryd.ntmps11
  go_wp2
  go_loopw [3, 8] (fun s i wr => ∃ k : Nat, k ≤ n ∧ i = .int .i64 (k : Nat) ∧ s = (Value.string ⟨List.toArray (opsL (D.take k))⟩) ∧ Holds E wr [base w]) (fun _ i _ => n - (intOf i).toNat)
  case atStart => exact ⟨0, by omega, rfl, rfl, H0⟩
  case round =>
    obtain ⟨k, hk, rfl, rfl, HW⟩ := hrel
    clear H0
    by_cases hlt : k < n
    · obtain ⟨b, o, v, rfl, c0, c1, c2, c3, c4, hv⟩ := HD.out.2 k hlt
      have hbw := HBL.out _ _ HW
      have hbk := World.block_lt_of_cell? _ _ c0
      have c0 := (hbw.cell (p := ⟨b, o + k * 5, none⟩) hbk).trans c0
      have c1 := (hbw.cell (p := ⟨b, o + k * 5 + 1, none⟩) hbk).trans c1
      have c2 := (hbw.cell (p := ⟨b, o + k * 5 + 2, none⟩) hbk).trans c2
      have c3 := (hbw.cell (p := ⟨b, o + k * 5 + 3, none⟩) hbk).trans c3
      have c4 := (hbw.cell (p := ⟨b, o + k * 5 + 4, none⟩) hbk).trans c4
      clear hbk hbw
      have hvw := (hv : BytesR _ _ _)
      have HV := Lib.hid hvw
      obtain ⟨av, cv, rfl, _⟩ := hvw
      clear hv
      have hs := opsL_succ D k (by omega)
      have hbl := opsL_len D hA k (by omega)
      have hat := hA k
      have hlen : (D.getD k OpS.none).may = true → (opLine (D.getD k OpS.none)).length ≤ 100000 := opLine_len _ hat
      have HS := Lib.hid hs
      have HAT := Lib.hid hat
      have HLEN := Lib.hid hlen
      clear hs hat hlen
      generalize opsL (D.take k) = t at *
      generalize D.getD k OpS.none = op at *
      have CM : Hid (∀ W A, Holds E W A → Calls Tryd.prog 27 #[opV op.kind op.perm op.n op.at' (.slice av op.data.length cv)] W (Ret E (.bool op.may) A)) := Lib.hid fun W A h => purH h (may_any (w := W) op.kind op.perm op.n op.at' av op.data.length cv)
      have ht : t.length ≤ 50000000 := by omega
      have HQ : Hid (∃ q, op.may = q) := Lib.hid ⟨_, rfl⟩
      have H1 := HW.alloc (.cells #[.int .i64 op.kind, .int .i64 op.perm, .int .i64 op.n, .int .u64 op.at', .slice av op.data.length cv] 38)
      have hc1 := H1.cells
      cases hq : op.may
      · have CM1 := CM.out
        rw [hq] at CM1
        have CM2 := Lib.hid CM1
        unfold opV at CM2
        rw [hq] at HS
        clear CM CM1 hq HQ HLEN
        go_wp2_with fail
        refine (CM2.out _ _ H1).mono ?_
        rintro e w1 ⟨rfl, H2⟩
        go_wp2
        go_roundw
        case rel =>
          refine ⟨k + 1, by omega, by go_num, ?_, H2.drop⟩
          rw [HS.out]; simp
        case measure => simp [intOf]; omega
      · have CM1 := CM.out
        rw [hq] at CM1
        have CM2 := Lib.hid CM1
        unfold opV at CM2
        rw [hq] at HS
        have COP : Hid (∀ W A, Holds E W (base w :: A) → Calls Tryd.prog 28 #[opV op.kind op.perm op.n op.at' (.slice av op.data.length cv)] W (Pur W ((Value.string ⟨List.toArray (opLine op)⟩)))) := Lib.hid fun W A h => op_any (HT.out.below (HBL.out _ _ h)) (HB.out.below (HBL.out _ _ h)) op HAT.out _ (HV.out.below (HBL.out _ _ h)) hq
        have hlo := HLEN.out hq
        unfold opV at COP
        clear CM CM1 hq HQ HLEN
        generalize opLine op = u at *
        go_wp2_with fail
        refine (CM2.out _ _ H1).mono ?_
        rintro e w1 ⟨rfl, H2⟩
        have hc2 := H2.cells
        go_wp2_with fail
        refine (purH H2 (COP.out _ _ H2.swap)).mono ?_
        rintro e w2 ⟨rfl, H3⟩
        go_wp2
        go_roundw
        case rel =>
          refine ⟨k + 1, by omega, by go_num, ?_, H3.drop⟩
          rw [HS.out]
          exact congrArg Value.string (bapp t u)
        case measure => simp [intOf]; omega
    · rw [List.take_of_length_le (by omega)]
      obtain rfl : k = n := by omega
      generalize opsL D = t at *
      go_wp2
      go_ret
      exact ⟨rfl, HBL.out _ _ HW⟩
end
end Go.Proofs.YtiidfgomfmfaoaaDoor
