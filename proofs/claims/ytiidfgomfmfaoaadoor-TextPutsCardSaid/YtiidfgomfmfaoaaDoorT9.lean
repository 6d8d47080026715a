/-
  Text: which ops, configurations and scripts may be.
-/
import Derived.Test.YtiidfgomfmfaoaaDoorT8
namespace Go.Proofs.YtiidfgomfmfaoaaDoor
open Go.RowKit

def opV (k p n at' : Int) (v : Value) : Value := .agg #[.int .i64 k, .int .i64 p, .int .i64 n, .int .u64 at', v]
def inK (k : Int) : Bool := decide (0 ≤ k ∧ k < 11)
def mayO (k p n at' : Int) (m : Nat) : Bool := inK k && (withinB p (fieldsB k).1 && (withinB n (fieldsB k).2.2.1 && (withinB m (fieldsB k).2.2.2 && ((fieldsB k).2.1 || at' == 0))))

theorem inK_cases (k : Int) : (k < 0 ∧ inK k = false) ∨ (0 ≤ k ∧ 11 ≤ k ∧ inK k = false) ∨ (0 ≤ k ∧ k < 11 ∧ inK k = true) := by
  unfold inK
  rcases (by omega : k < 0 ∨ (0 ≤ k ∧ 11 ≤ k) ∨ (0 ≤ k ∧ k < 11)) with h | ⟨h, h2⟩ | ⟨h, h2⟩
  · exact .inl ⟨h, decide_eq_false (by omega)⟩
  · exact .inr (.inl ⟨h, h2, decide_eq_false (by omega)⟩)
  · exact .inr (.inr ⟨h, h2, decide_eq_true (by omega)⟩)

section
variable {w : World}
/-- A Pur contract in a world of the separation logic. -/
theorem purH {E : Env} {A : List HP} {f : FuncId} {args : Array Value} {v : Value} (H : Holds E w A) (h : Calls Tryd.prog f args w (Pur w v)) : Calls Tryd.prog f args w (Ret E v A) := h.mono fun _ _ ⟨h1, h2⟩ => ⟨h1, H.ofBelow h2⟩

set_option maxRecDepth 100000 in
set_option maxHeartbeats 4000000 in
theorem may_any (k p n at' : Int) (ad : Option Addr) (m c : Nat) : Calls Tryd.prog 27 #[opV k p n at' (.slice ad m c)] w (Pur w (.bool (mayO k p n at' m))) := by
  have H0 := Holds.start w
  generalize hE : (⟨w.os, w.output, w.tape⟩ : Env) = E at *
  have hbel : ∀ w' A, Holds E w' (base w :: A) → Below w.heap.size w w' := fun w' A h => by subst hE; exact h.below rfl rfl rfl
  have HBL := Lib.hid hbel
  clear hE hbel
  have H1 := H0.alloc (.cells #[.int .i64 k, .int .i64 p, .int .i64 n, .int .u64 at', .slice ad m c] 38)
  have cf := fun W : World => fields_any (w := W) k
  obtain ⟨ba, hba⟩ : ∃ x, (fieldsB k).1 = x := ⟨_, rfl⟩
  obtain ⟨bb, hbb⟩ : ∃ x, (fieldsB k).2.1 = x := ⟨_, rfl⟩
  obtain ⟨bc, hbc⟩ : ∃ x, (fieldsB k).2.2.1 = x := ⟨_, rfl⟩
  obtain ⟨bd, hbd⟩ : ∃ x, (fieldsB k).2.2.2 = x := ⟨_, rfl⟩
  simp only [hasV, hba, hbb, hbc, hbd] at cf
  unfold opV mayO
  rw [hba, hbb, hbc, hbd]
  clear hba hbb hbc hbd
  have c1 := Lib.hid fun W : World => within_any (w := W) p ba
  have c2 := Lib.hid fun W : World => within_any (w := W) n bc
  have c3 := Lib.hid fun W : World => within_any (w := W) (m : Int) bd
  generalize withinB p ba = q1 at *
  generalize withinB n bc = q2 at *
  generalize withinB (m : Int) bd = q3 at *
  have hc1 := H1.cells
  go_enter Tryd.func27, Tryd.ntmps27
  go_wp2_with fail
  refine (purH H1 (cf _)).mono ?_
  rintro e w1 ⟨rfl, H2⟩
  have H3 := (H2.alloc (.cells #[.bool ba, .bool bb, .bool bc, .bool bd] 70))
  have hd2 := (H2.cells)
  have hc3 := H3.swap.cells
  have hd3 := H3.cells
  obtain ⟨bq, hbq⟩ : ∃ x, w1.heap.size = x := ⟨_, rfl⟩
  rw [hbq] at H3 hd3
  rcases inK_cases k with ⟨h, hd⟩ | ⟨h, h2, hd⟩ | ⟨h, h2, hd⟩
  · go_wp2_with fail
    go_ret
    exact ⟨by first | rfl | (rw [hd]; rfl), HBL.out _ _ H3.drop.drop⟩
  · go_wp2_with fail
    go_ret
    exact ⟨by first | rfl | (rw [hd]; rfl), HBL.out _ _ H3.drop.drop⟩
  · have HD := Lib.hid hd
    clear hd hd2
    go_wp2_with fail
    refine (purH H3 (c1.out _)).mono ?_
    rintro e w2 ⟨rfl, H4⟩
    clear hc3 hd3
    have hc4 := H4.swap.cells
    have hd4 := H4.cells
    cases q1 with
    | false =>
      go_wp2
      go_ret
      exact ⟨by first | rfl | (rw [HD.out]; simp), HBL.out _ _ H4.drop.drop⟩
    | true =>
      go_wp2_with fail
      refine (purH H4 (c2.out _)).mono ?_
      rintro e w3 ⟨rfl, H5⟩
      clear hc4 hd4
      have hc5 := H5.swap.cells
      have hd5 := H5.cells
      cases q2 with
      | false =>
        go_wp2
        go_ret
        exact ⟨by first | rfl | (rw [HD.out]; simp), HBL.out _ _ H5.drop.drop⟩
      | true =>
        go_wp2_with fail
        refine (purH H5 (c3.out _)).mono ?_
        rintro e w4 ⟨rfl, H6⟩
        clear hc5 hd5
        have hc6 := H6.swap.cells
        have hd6 := H6.cells
        cases q3 with
        | false =>
          go_wp2
          go_ret
          exact ⟨by first | rfl | (rw [HD.out]; simp), HBL.out _ _ H6.drop.drop⟩
        | true =>
          cases bb
          all_goals
            go_wp2
            go_ret
            exact ⟨by first | rfl | (rw [HD.out]; simp), HBL.out _ _ H6.drop.drop⟩
set_option maxRecDepth 100000 in
set_option maxHeartbeats 4000000 in
theorem refMayO (k p n at' : Int) (ad : Option Addr) (m c : Nat) : Calls Tryd.prog 9 #[opV k p n at' (.slice ad m c)] w (Pur w (.bool (mayO k p n at' m))) := by
  have H0 := Holds.start w
  generalize hE : (⟨w.os, w.output, w.tape⟩ : Env) = E at *
  have hbel : ∀ w' A, Holds E w' (base w :: A) → Below w.heap.size w w' := fun w' A h => by subst hE; exact h.below rfl rfl rfl
  have HBL := Lib.hid hbel
  clear hE hbel
  have H1 := H0.alloc (.cells #[.int .i64 k, .int .i64 p, .int .i64 n, .int .u64 at', .slice ad m c] 38)
  have cf := fun W : World => refHas_any (w := W) k
  obtain ⟨ba, hba⟩ : ∃ x, (fieldsB k).1 = x := ⟨_, rfl⟩
  obtain ⟨bb, hbb⟩ : ∃ x, (fieldsB k).2.1 = x := ⟨_, rfl⟩
  obtain ⟨bc, hbc⟩ : ∃ x, (fieldsB k).2.2.1 = x := ⟨_, rfl⟩
  obtain ⟨bd, hbd⟩ : ∃ x, (fieldsB k).2.2.2 = x := ⟨_, rfl⟩
  simp only [hasV, hba, hbb, hbc, hbd] at cf
  unfold opV mayO
  rw [hba, hbb, hbc, hbd]
  clear hba hbb hbc hbd
  have c1 := Lib.hid fun W : World => refmay_eq (w := W) p ba
  have c2 := Lib.hid fun W : World => refmay_eq (w := W) n bc
  have c3 := Lib.hid fun W : World => refmay_eq (w := W) (m : Int) bd
  generalize withinB p ba = q1 at *
  generalize withinB n bc = q2 at *
  generalize withinB (m : Int) bd = q3 at *
  have hc1 := H1.cells
  go_enter Tryd.func9, Tryd.ntmps9
  go_wp2_with fail
  refine (purH H1 (cf _)).mono ?_
  rintro e w1 ⟨rfl, H2⟩
  have H3 := (H2.alloc (.cells #[.bool ba, .bool bb, .bool bc, .bool bd] 49))
  have hd2 := (H2.cells)
  have hc3 := H3.swap.cells
  have hd3 := H3.cells
  obtain ⟨bq, hbq⟩ : ∃ x, w1.heap.size = x := ⟨_, rfl⟩
  rw [hbq] at H3 hd3
  rcases inK_cases k with ⟨h, hd⟩ | ⟨h, h2, hd⟩ | ⟨h, h2, hd⟩
  · go_wp2_with fail
    go_ret
    exact ⟨by first | rfl | (rw [hd]; rfl), HBL.out _ _ H3.drop.drop⟩
  · go_wp2_with fail
    go_ret
    exact ⟨by first | rfl | (rw [hd]; rfl), HBL.out _ _ H3.drop.drop⟩
  · have HD := Lib.hid hd
    clear hd hd2
    go_wp2_with fail
    refine (purH H3 (c1.out _)).mono ?_
    rintro e w2 ⟨rfl, H4⟩
    clear hc3 hd3
    have hc4 := H4.swap.cells
    have hd4 := H4.cells
    cases q1 with
    | false =>
      go_wp2
      go_ret
      exact ⟨by first | rfl | (rw [HD.out]; simp), HBL.out _ _ H4.drop.drop⟩
    | true =>
      obtain ⟨q4, hq4⟩ : ∃ q4, (bb || at' == 0) = q4 := ⟨_, rfl⟩
      have HQ := Lib.hid hq4
      have hcase : (bb = true ∧ q4 = true) ∨ (bb = false ∧ (at' == 0) = q4) := by cases bb <;> simp_all
      clear hq4
      rcases hcase with ⟨rfl, rfl⟩ | ⟨rfl, hat⟩
      · skip
        go_wp2_with fail
        refine (purH H4 (c2.out _)).mono ?_
        rintro e w3 ⟨rfl, H5⟩
        clear hc4 hd4
        have hc5 := H5.swap.cells
        have hd5 := H5.cells
        cases q2 with
        | false =>
          go_wp2
          go_ret
          exact ⟨by first | rfl | (rw [HD.out]; simp), HBL.out _ _ H5.drop.drop⟩
        | true =>
          go_wp2_with fail
          refine (purH H5 (c3.out _)).mono ?_
          rintro e w4 ⟨rfl, H6⟩
          clear hc5 hd5
          go_wp2
          go_ret
          exact ⟨by first | rfl | (rw [HD.out, HQ.out]; simp), HBL.out _ _ H6.drop.drop⟩
      · cases q4 with
        | false =>
          go_wp2
          go_ret
          exact ⟨by first | rfl | (rw [HD.out, HQ.out]; simp), HBL.out _ _ H4.drop.drop⟩
        | true =>
          skip
          go_wp2_with fail
          refine (purH H4 (c2.out _)).mono ?_
          rintro e w3 ⟨rfl, H5⟩
          clear hc4 hd4
          have hc5 := H5.swap.cells
          have hd5 := H5.cells
          cases q2 with
          | false =>
            go_wp2
            go_ret
            exact ⟨by first | rfl | (rw [HD.out]; simp), HBL.out _ _ H5.drop.drop⟩
          | true =>
            go_wp2_with fail
            refine (purH H5 (c3.out _)).mono ?_
            rintro e w4 ⟨rfl, H6⟩
            clear hc5 hd5
            go_wp2
            go_ret
            exact ⟨by first | rfl | (rw [HD.out, HQ.out]; simp), HBL.out _ _ H6.drop.drop⟩
end
end Go.Proofs.YtiidfgomfmfaoaaDoor
