/-
  Text: Great, the reference's Right.
-/
import Derived.Test.YtiidfgomfmfaoaaDoorT17
namespace Go.Proofs.YtiidfgomfmfaoaaDoor
open Go.RowKit
section
variable {w : World}
def greatOk (n nch : Nat) (D : List OpS) : Prop := n ≤ 500 ∧ nch ≤ 4100 ∧ ∀ i, i < n → (D.getD i OpS.none).data.length ≤ 300
def GreatR (n nch : Nat) (D : List OpS) (en : Ending) : Prop := ∃ g, en = .returned (.bool g) ∧ (g = false → greatOk n nch D)
theorem GreatR.yes {n nch : Nat} {D : List OpS} {en : Ending} (h : en = .returned (.bool true)) : GreatR n nch D en := ⟨true, h, by simp⟩
theorem GreatR.no {n nch : Nat} {D : List OpS} {en : Ending} (h : en = .returned (.bool false)) (hg : greatOk n nch D) : GreatR n nch D en := ⟨false, h, fun _ => hg⟩

set_option maxRecDepth 100000 in
set_option maxHeartbeats 4000000 in
theorem great_any (F S L A : Int) (ch : Option Addr) (nch cch : Nat) (ad : Option Addr) (n c : Nat) (D : List OpS) (hn : n ≤ 4611686018427387904) (hnch : nch ≤ 4611686018427387904) (hD : OpsR w ad n D) (hdl : ∀ i, i < n → (D.getD i OpS.none).data.length ≤ 4611686018427387904) :
    Calls Tryd.prog 5 #[scriptV F S L A (.slice ch nch cch) (.slice ad n c)] w (fun en w' => GreatR n nch D en ∧ Below w.heap.size w w') := by
  have hl := hD.1
  have HD := Lib.hid hD
  clear hD
  have H0 := Holds.start w
  generalize hE : (⟨w.os, w.output, w.tape⟩ : Env) = E at *
  have hbel : ∀ w' A, Holds E w' (base w :: A) → Below w.heap.size w w' := fun w' A h => by subst hE; exact h.below rfl rfl rfl
  have HBL := Lib.hid hbel
  clear hE hbel
  have H1 := H0.alloc (.cells #[.int .i64 F, .int .i64 S, .int .i64 L, .int .i64 A, .slice ch nch cch, .slice ad n c] 27)
  obtain ⟨bx, hbx⟩ : ∃ bx, w.heap.size = bx := ⟨_, rfl⟩
  rw [hbx] at H1
  have hc1 := H1.cells
  unfold scriptV
  have HDL := Lib.hid hdl
  clear hdl
  go_enter Tryd.func5, Tryd.ntmps5
  go_wp2
  go_loopw [3] (fun i wr => ∃ k : Nat, k ≤ n ∧ k ≤ 600 ∧ i = .int .i64 (k : Nat) ∧ Hid (∀ i, i < k → (D.getD i OpS.none).data.length ≤ 300) ∧ Holds E wr [pts bx (.cells #[.int .i64 F, .int .i64 S, .int .i64 L, .int .i64 A, .slice ch nch cch, .slice ad n c] 27 (0, 0)), base w]) (fun i _ => n - (intOf i).toNat)
  case atStart => exact ⟨0, by omega, by omega, rfl, Lib.hid (fun j hj => absurd hj (by omega)), H1⟩
  case round =>
    clear H0 H1 hc1 hbx
    obtain ⟨k, hk, hk6, rfl, HX, HW⟩ := hrel
    have hd := HW.cells
    by_cases hlt : k < n
    · by_cases h6 : k < 600
      · have hdn := HDL.out k hlt
        obtain ⟨b, o, v, rfl, c0, c1, c2, c3, c4, hv⟩ := HD.out.2 k hlt
        have hbw := HBL.out _ _ HW.swap
        have hbk := World.block_lt_of_cell? _ _ c0
        have c0 := (hbw.cell (p := ⟨b, o + k * 5, none⟩) hbk).trans c0
        have c1 := (hbw.cell (p := ⟨b, o + k * 5 + 1, none⟩) hbk).trans c1
        have c2 := (hbw.cell (p := ⟨b, o + k * 5 + 2, none⟩) hbk).trans c2
        have c3 := (hbw.cell (p := ⟨b, o + k * 5 + 3, none⟩) hbk).trans c3
        have c4 := (hbw.cell (p := ⟨b, o + k * 5 + 4, none⟩) hbk).trans c4
        clear hbk hbw
        have hvw := (hv : BytesR _ _ _)
        have HV := Lib.hid hvw
        obtain ⟨av, cv, rfl, _⟩ := hvw
        clear hv
        have hne : ∀ m, (D.getD k OpS.none).data.length = m → m ≤ 300 → ∀ i, i < k + 1 → (D.getD i OpS.none).data.length ≤ 300 := fun m hm h3 i hi => by
          by_cases h : i = k
          · subst h; omega
          · exact HX.out i (by omega)
        have HNE := Lib.hid hne
        obtain ⟨m, hm⟩ : ∃ m, (D.getD k OpS.none).data.length = m := ⟨_, rfl⟩
        rw [hm] at c4 hdn
        have HM := Lib.hid hm
        clear hm hne HV
        generalize (D.getD k OpS.none) = op at c0 c1 c2 c3
        by_cases h3 : 300 < m
        · go_wp2
          go_ret
          exact ⟨.yes rfl, HBL.out _ _ HW.drop⟩
        · go_wp2
          go_roundw
          case rel => exact ⟨k + 1, by omega, by omega, by go_num, Lib.hid (HNE.out m HM.out (by omega)), HW⟩
          case measure => simp [intOf]; omega
      · obtain rfl : k = 600 := by omega
        go_wp2
        go_ret
        exact ⟨.yes rfl, HBL.out _ _ HW.drop⟩
    · obtain hkn : k = n := by omega
      subst hkn
      rcases (by omega : 500 < k ∨ (k ≤ 500 ∧ 4100 < nch) ∨ (k ≤ 500 ∧ nch ≤ 4100)) with h | ⟨h, h2⟩ | ⟨h, h2⟩
      all_goals
        go_wp2
        go_ret
        first
          | exact ⟨.yes rfl, HBL.out _ _ HW.drop⟩
          | exact ⟨.yes (congrArg (fun b => Ending.returned (.bool b)) (by simp; omega)), HBL.out _ _ HW.drop⟩
          | exact ⟨.no (congrArg (fun b => Ending.returned (.bool b)) (by simp; omega)) ⟨h, h2, HX.out⟩, HBL.out _ _ HW.drop⟩

set_option maxRecDepth 100000 in
set_option maxHeartbeats 4000000 in
theorem refRight (F S L A : Int) (ch : Option Addr) (nch cch : Nat) (hnch : nch ≤ 4100) (ad : Option Addr) (n c : Nat) (D : List OpS) (hn : n ≤ 500) (hD : OpsR w ad n D) :
    Calls Tryd.prog 7 #[scriptV F S L A (.slice ch nch cch) (.slice ad n c)] w (Pur w (.int .i64 (rightE F S L A nch D))) := by
  have hl := hD.1
  have HD := Lib.hid hD
  clear hD
  have H0 := Holds.start w
  generalize hE : (⟨w.os, w.output, w.tape⟩ : Env) = E at *
  have hbel : ∀ w' A, Holds E w' (base w :: A) → Below w.heap.size w w' := fun w' A h => by subst hE; exact h.below rfl rfl rfl
  have HBL := Lib.hid hbel
  clear hE hbel
  have H1 := H0.alloc (.cells #[.int .i64 F, .int .i64 S, .int .i64 L, .int .i64 A, .slice ch nch cch, .slice ad n c] 27)
  obtain ⟨bx, hbx⟩ : ∃ bx, w.heap.size = bx := ⟨_, rfl⟩
  rw [hbx] at H1
  have hc1 := H1.cells
  unfold rightE scriptV
  rw [hl]
  have cc := Lib.hid fun W : World => refConf (w := W) F S L A
  unfold confV at cc
  have hno : (∀ k, k < n → (D.getD k OpS.none).may = true) → D.any (fun o => !o.may) = false := by
    intro h
    rw [List.any_eq_false]
    intro o ho
    obtain ⟨k, hk, rfl⟩ := List.mem_iff_getElem.1 ho
    have := h k (by omega)
    rw [List.getD_eq_getElem?_getD, List.getElem?_eq_getElem hk] at this
    simpa using this
  have hyes : ∀ k, k < n → (D.getD k OpS.none).may = false → D.any (fun o => !o.may) = true := by
    intro k hk h
    rw [List.any_eq_true]
    rw [List.getD_eq_getElem?_getD, List.getElem?_eq_getElem (by omega : k < D.length)] at h
    exact ⟨_, List.getElem_mem (by omega : k < D.length), by simpa using h⟩
  have HNO := Lib.hid hno
  have HYES := Lib.hid hyes
  clear hno hyes
  generalize D.any (fun o => !o.may) = q at *
  generalize confB F S L A = qc at *
  cases qc with
  | false =>
    rw [if_pos rfl]
    go_enter Tryd.func7, Tryd.ntmps7
    go_wp2_with fail
    refine (purH H1 (cc.out _)).mono ?_
    rintro e w1 ⟨rfl, H2⟩
    go_wp2
    go_ret
    exact ⟨rfl, HBL.out _ _ H2.drop⟩
  | true =>
    rw [if_neg (by decide)]
    rcases (by omega : 4000 < nch ∨ (nch ≤ 4000 ∧ 400 < n) ∨ (nch ≤ 4000 ∧ n ≤ 400)) with h | ⟨h, h2⟩ | ⟨h, h2⟩
    case inr.inr =>
      rw [if_neg (by omega)]
      obtain ⟨r, hr⟩ : ∃ r, (if q = true then (3 : Int) else 0) = r := ⟨_, rfl⟩
      rw [hr]
      have HR := Lib.hid hr
      clear hr hl
      go_enter Tryd.func7, Tryd.ntmps7
      go_wp2_with fail
      refine (purH H1 (cc.out _)).mono ?_
      rintro e w1 ⟨rfl, H2⟩
      have hc2 := H2.cells
      clear hc1
      go_wp2
      go_loopw [3] (fun i wr => ∃ k : Nat, k ≤ n ∧ i = .int .i64 (k : Nat) ∧ Hid (∀ i, i < k → (D.getD i OpS.none).may = true) ∧ Holds E wr [pts bx (.cells #[.int .i64 F, .int .i64 S, .int .i64 L, .int .i64 A, .slice ch nch cch, .slice ad n c] 27 (0, 0)), base w]) (fun i _ => n - (intOf i).toNat)
      case atStart => exact ⟨0, by omega, rfl, Lib.hid (fun j hj => absurd hj (by omega)), H2⟩
      case round =>
        clear hc2 H2 H1 H0 cc hbx
        obtain ⟨k, hk, rfl, HX, HW⟩ := hrel
        have hd := HW.cells
        by_cases hlt : k < n
        · obtain ⟨b, o, v, rfl, c0, c1, c2, c3, c4, hv⟩ := HD.out.2 k hlt
          have hbw := HBL.out _ _ HW.swap
          have hbk := World.block_lt_of_cell? _ _ c0
          have c0 := (hbw.cell (p := ⟨b, o + k * 5, none⟩) hbk).trans c0
          have c1 := (hbw.cell (p := ⟨b, o + k * 5 + 1, none⟩) hbk).trans c1
          have c2 := (hbw.cell (p := ⟨b, o + k * 5 + 2, none⟩) hbk).trans c2
          have c3 := (hbw.cell (p := ⟨b, o + k * 5 + 3, none⟩) hbk).trans c3
          have c4 := (hbw.cell (p := ⟨b, o + k * 5 + 4, none⟩) hbk).trans c4
          clear hbk hbw
          have hvw := (hv : BytesR _ _ _)
          have HV := Lib.hid hvw
          obtain ⟨av, cv, rfl, _⟩ := hvw
          clear hv
          have hnx : (D.getD k OpS.none).may = true → ∀ i, i < k + 1 → (D.getD i OpS.none).may = true := fun m i hi => by
            by_cases h : i = k
            · subst h; exact m
            · exact HX.out i (by omega)
          have hyk := HYES.out k hlt
          have HNX := Lib.hid hnx
          have HYK := Lib.hid hyk
          clear hyk hnx HV
          obtain ⟨op, hop⟩ : ∃ op, D.getD k OpS.none = op := ⟨_, rfl⟩
          rw [hop] at c0 c1 c2 c3 c4 HNX HYK
          clear hop
          have CM : Hid (∀ W A, Holds E W A → Calls Tryd.prog 9 #[opV op.kind op.perm op.n op.at' (.slice av op.data.length cv)] W (Ret E (.bool op.may) A)) := Lib.hid fun W A h => purH h (refMayO (w := W) op.kind op.perm op.n op.at' av op.data.length cv)
          unfold opV at CM
          cases hq : op.may
          all_goals
            rw [hq] at CM
            have HQ := Lib.hid hq
            clear hq
            go_wp2_with fail
            refine (CM.out _ _ HW).mono ?_
            rintro e w3 ⟨rfl, H3⟩
            go_wp2
          · go_ret
            refine ⟨?_, HBL.out _ _ H3.drop⟩
            rw [← HR.out, if_pos (HYK.out HQ.out)]
            rfl
          · go_roundw
            case rel => exact ⟨k + 1, by omega, by go_num, Lib.hid (HNX.out HQ.out), H3⟩
            case measure => simp [intOf]; omega
        · obtain hkn : k = n := by omega
          subst hkn
          go_wp2
          go_ret
          refine ⟨?_, HBL.out _ _ HW.drop⟩
          rw [← HR.out, if_neg (by rw [HNO.out HX.out]; simp)]
          rfl
    all_goals
      rw [if_pos (by omega)]
      clear hl
      go_enter Tryd.func7, Tryd.ntmps7
      go_wp2_with fail
      refine (purH H1 (cc.out _)).mono ?_
      rintro e w1 ⟨rfl, H2⟩
      have hc2 := H2.cells
      clear hc1
      go_wp2
      go_ret
      exact ⟨rfl, HBL.out _ _ H2.drop⟩
end
end Go.Proofs.YtiidfgomfmfaoaaDoor
