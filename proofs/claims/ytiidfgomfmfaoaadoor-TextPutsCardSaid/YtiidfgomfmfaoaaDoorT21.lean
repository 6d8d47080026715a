/-
  Text: the laws' walks.
-/
import Derived.Test.YtiidfgomfmfaoaaDoorT20
namespace Go.Proofs.YtiidfgomfmfaoaaDoor
open Go.RowKit
section
variable {w : World}
set_option maxRecDepth 100000 in
set_option maxHeartbeats 400000 in
theorem words_walk (hT : Tab w) (hB : Brj w) (p : Int) (ad : Option Addr) (n c : Nat) (l : List UInt8) (hl : l.length = n) (hn : n ≤ 4611686018427387904) (hc : BytesR w (.slice ad n c) l) :
    Calls Tryd.prog 4 #[.int .i64 p, .slice ad n c] w (Pur w (.bool true)) := by
  have HT := Lib.hid hT
  have HB := Lib.hid hB
  have HV := Lib.hid hc
  clear hT hB hc
  have H0 := Holds.start w
  generalize hE : (⟨w.os, w.output, w.tape⟩ : Env) = E at *
  have hbel : ∀ w' A, Holds E w' (base w :: A) → Below w.heap.size w w' := fun w' A h => by subst hE; exact h.below rfl rfl rfl
  have HBL := Lib.hid hbel
  clear hE hbel
  have CL : Hid (∀ W A, Holds E W (base w :: A) → Calls Tryd.prog 6 #[] W (Ret E (.bool true) (base w :: A))) := Lib.hid fun W A h => purH h (lives_any (HT.out.below (HBL.out _ _ h)) (HB.out.below (HBL.out _ _ h)))
  by_cases h6 : 600 < n
  · clear HV
    go_enter Tryd.func4, Tryd.ntmps4
    go_wp2_with fail
    refine (CL.out _ _ H0).mono ?_
    rintro e w1 ⟨rfl, H1⟩
    go_wp2
    go_ret
    exact ⟨rfl, HBL.out _ _ H1⟩
  · have CP : Hid (∀ W A, Holds E W (base w :: A) → Calls Tryd.prog 13 #[.int .i64 p] W (Ret E ((Value.string ⟨List.toArray (permW p)⟩)) (base w :: A))) := Lib.hid fun W A h => purH h (perm_any (HT.out.below (HBL.out _ _ h)) p)
    have CRP : Hid (∀ W A, Holds E W (base w :: A) → Calls Tryd.prog 14 #[.int .i64 p] W (Ret E ((Value.string ⟨List.toArray (permW p)⟩)) (base w :: A))) := Lib.hid fun W A h => purH h (refPerm p)
    have CB : Hid (∀ W A, Holds E W (base w :: A) → Calls Tryd.prog 15 #[.slice ad n c] W (Ret E ((Value.string ⟨List.toArray (bytesL l)⟩)) (base w :: A))) := Lib.hid fun W A h => purH h (by
      obtain ⟨ad', c', he, hc⟩ := HV.out.below (HBL.out _ _ h)
      cases he
      exact bytes_any ad _ c l rfl (by omega) hc)
    have CRB : Hid (∀ W A, Holds E W (base w :: A) → Calls Tryd.prog 16 #[.slice ad n c] W (Ret E ((Value.string ⟨List.toArray (bytesL l)⟩)) (base w :: A))) := Lib.hid fun W A h => purH h (by
      obtain ⟨ad', c', he, hc⟩ := HV.out.below (HBL.out _ _ h)
      cases he
      exact refBytes ad _ c l rfl (by omega) hc)
    generalize permW p = sp at *
    generalize bytesL l = sb at *
    clear HV hl
    go_enter Tryd.func4, Tryd.ntmps4
    go_wp2_with fail
    refine (CP.out _ _ H0).mono ?_
    rintro e w1 ⟨rfl, H1⟩
    go_wp2_with fail
    refine (CRP.out _ _ H1).mono ?_
    rintro e w2 ⟨rfl, H2⟩
    go_wp2_with fail
    refine (CB.out _ _ H2).mono ?_
    rintro e w3 ⟨rfl, H3⟩
    go_wp2_with fail
    refine (CRB.out _ _ H3).mono ?_
    rintro e w4 ⟨rfl, H4⟩
    go_wp2_with fail
    refine (CL.out _ _ H4).mono ?_
    rintro e w5 ⟨rfl, H5⟩
    go_wp2
    go_ret
    exact ⟨rfl, HBL.out _ _ H5⟩

set_option maxRecDepth 100000 in
set_option maxHeartbeats 2000000 in
theorem puts_walk (hT : Tab w) (hB : Brj w) (F S L A : Int) (ch : Option Addr) (nch cch : Nat) (hnch : nch ≤ 4611686018427387904) (C : List Bool) (hCl : C.length = nch) (hC : ChR w ch C) (ad : Option Addr) (n c : Nat) (hn : n ≤ 4611686018427387904) (D : List OpS) (hD : OpsR w ad n D) (hA : AtOk D)
    (hdl : ∀ i, i < n → (D.getD i OpS.none).data.length ≤ 4611686018427387904) :
    Calls Tryd.prog 3 #[scriptV F S L A (.slice ch nch cch) (.slice ad n c)] w (Pur w (.bool true)) := by
  have hl := hD.1
  have HT := Lib.hid hT
  have HB := Lib.hid hB
  have HD := Lib.hid hD
  have HCH := Lib.hid hC
  have HDL := Lib.hid hdl
  clear hT hB hD hC hdl
  have H0 := Holds.start w
  generalize hE : (⟨w.os, w.output, w.tape⟩ : Env) = E at *
  have hbel : ∀ w' A, Holds E w' (base w :: A) → Below w.heap.size w w' := fun w' A h => by subst hE; exact h.below rfl rfl rfl
  have HBL := Lib.hid hbel
  clear hE hbel
  have CL : Hid (∀ W A', Holds E W (base w :: A') → Calls Tryd.prog 6 #[] W (Pur W (.bool true))) := Lib.hid fun W A' h => lives_any (HT.out.below (HBL.out _ _ h)) (HB.out.below (HBL.out _ _ h))
  have CG : Hid (∀ W A', Holds E W (base w :: A') → Calls Tryd.prog 5 #[scriptV F S L A (.slice ch nch cch) (.slice ad n c)] W (fun en w' => GreatR n nch D en ∧ Below W.heap.size W w')) := Lib.hid fun W A' h => great_any F S L A ch nch cch ad n c D hn hnch (HD.out.below (HBL.out _ _ h)) HDL.out
  have CR : Hid (greatOk n nch D → ∀ W A', Holds E W (base w :: A') → Calls Tryd.prog 7 #[scriptV F S L A (.slice ch nch cch) (.slice ad n c)] W (Pur W (.int .i64 (rightE F S L A nch D)))) := Lib.hid fun hg W A' h => refRight F S L A ch nch cch hg.2.1 ad n c D hg.1 (HD.out.below (HBL.out _ _ h))
  have CP : Hid (greatOk n nch D → ∀ W A', Holds E W (base w :: A') → Calls Tryd.prog 8 #[scriptV F S L A (.slice ch nch cch) (.slice ad n c)] W (fun en w' => en = .returned (.tuple #[(Value.string ⟨List.toArray (putV F S L A C D)⟩), .int .i64 (rightE F S L A nch D)]) ∧ Below W.heap.size W w')) := Lib.hid fun hg W A' h => put_any (HT.out.below (HBL.out _ _ h)) (HB.out.below (HBL.out _ _ h)) F S L A ch nch cch C hCl (HCH.out.below (HBL.out _ _ h)) ad n c D hg.1 (HD.out.below (HBL.out _ _ h)) hA
  have CRP : Hid (rightE F S L A nch D = 0 → ∀ W A', Holds E W (base w :: A') → Calls Tryd.prog 12 #[scriptV F S L A (.slice ch nch cch) (.slice ad n c)] W (Pur W ((Value.string ⟨List.toArray (putV F S L A C D)⟩)))) := Lib.hid fun he W A' h => by
    have : putV F S L A C D = putL F S L A C D := by unfold putV; rw [hCl, if_pos he]
    rw [this]
    exact refPut F S L A ch nch cch C hCl (HCH.out.below (HBL.out _ _ h)) ad n c D (HD.out.below (HBL.out _ _ h)) hA he
  have CO : Hid (greatOk n nch D → ∀ W A', Holds E W (base w :: A') → Calls Tryd.prog 11 #[.slice ad n c] W (Pur W ((Value.string ⟨List.toArray (opsL D)⟩)))) := Lib.hid fun hg W A' h => textOp (HT.out.below (HBL.out _ _ h)) (HB.out.below (HBL.out _ _ h)) ad n c D hg.1 (HD.out.below (HBL.out _ _ h)) hA
  have hpv : rightE F S L A nch D ≠ 0 → putV F S L A C D = [] := fun h => by unfold putV; rw [hCl, if_neg h]
  have HPV := Lib.hid hpv
  have hrb := rightE_bd F S L A nch D
  generalize putV F S L A C D = pv at *
  generalize rightE F S L A nch D = r at *
  unfold scriptV at CG CR CP CRP ⊢
  have H1 := H0.alloc (.cells #[.int .i64 F, .int .i64 S, .int .i64 L, .int .i64 A, .slice ch nch cch, .slice ad n c] 27)
  obtain ⟨bx, hbx⟩ : ∃ bx, w.heap.size = bx := ⟨_, rfl⟩
  rw [hbx] at H1
  have hc1 := H1.cells
  clear hpv hCl HCH HDL
  go_enter Tryd.func3, Tryd.ntmps3
  go_wp2_with fail
  refine (CG.out _ _ H1.swap).mono ?_
  rintro e w1 ⟨⟨g, rfl, hg⟩, hb1⟩
  have H2 := H1.ofBelow hb1
  have hc2 := H2.cells
  clear hc1 hb1 H1 H0 hbx
  cases g with
  | true =>
    go_wp2_with fail
    refine (purH H2 (CL.out _ _ H2.swap)).mono ?_
    rintro e w2 ⟨rfl, H3⟩
    go_wp2
    go_ret
    exact ⟨rfl, HBL.out _ _ H3.drop⟩
  | false =>
    have HG := Lib.hid (hg rfl)
    have hn5 := HG.out.1
    have hnc4 := HG.out.2.1
    clear hg
    go_wp2_with fail
    refine (purH H2 (CR.out HG.out _ _ H2.swap)).mono ?_
    rintro e w2 ⟨rfl, H3⟩
    have hc3 := H3.cells
    clear hc2 H2
    go_wp2_with fail
    refine (CP.out HG.out _ _ H3.swap).mono ?_
    rintro e w3 ⟨rfl, hb3⟩
    have H4 := H3.ofBelow hb3
    clear hc3 H3 hb3
    have hc4 := H4.cells
    go_wp2
    go_loopw [6, 7] (fun t i wr => ∃ j : Nat, j ≤ n ∧ i = .int .i64 (j : Nat) ∧ t = (Value.string ⟨List.toArray (opsL (D.take j))⟩) ∧ Holds E wr [pts bx (.cells #[.int .i64 F, .int .i64 S, .int .i64 L, .int .i64 A, .slice ch nch cch, .slice ad n c] 27 (0, 0)), base w]) (fun _ i _ => n - (intOf i).toNat)
    case atStart => exact ⟨0, by omega, rfl, by simp [opsL], H4⟩
    case round =>
      clear H4 hc4
      obtain ⟨k, hk, rfl, rfl, HW⟩ := hrel
      have hd := HW.cells
      have hol := opsL_len D hA k (by omega)
      have ht : (opsL (D.take k)).length ≤ 100000000 := by omega
      by_cases hlt : k < n
      · obtain ⟨b, o, v, rfl, e0, e1, e2, e3, e4, hv⟩ := HD.out.2 k hlt
        have EC : Hid (∀ W, Below w.heap.size w W → W.cell? ⟨b, o + k * 5, none⟩ = some (.int .i64 (D.getD k OpS.none).kind) ∧ W.cell? ⟨b, o + k * 5 + 1, none⟩ = some (.int .i64 (D.getD k OpS.none).perm) ∧ W.cell? ⟨b, o + k * 5 + 2, none⟩ = some (.int .i64 (D.getD k OpS.none).n) ∧ W.cell? ⟨b, o + k * 5 + 3, none⟩ = some (.int .u64 (D.getD k OpS.none).at') ∧ W.cell? ⟨b, o + k * 5 + 4, none⟩ = some v) := Lib.hid fun W hbw => by
          have hbk := World.block_lt_of_cell? _ _ e0
          exact ⟨(hbw.cell (p := ⟨b, o + k * 5, none⟩) hbk).trans e0, (hbw.cell (p := ⟨b, o + k * 5 + 1, none⟩) hbk).trans e1, (hbw.cell (p := ⟨b, o + k * 5 + 2, none⟩) hbk).trans e2, (hbw.cell (p := ⟨b, o + k * 5 + 3, none⟩) hbk).trans e3, (hbw.cell (p := ⟨b, o + k * 5 + 4, none⟩) hbk).trans e4⟩
        clear e0 e1 e2 e3 e4
        have hvw := (hv : BytesR _ _ _)
        have HV := Lib.hid hvw
        obtain ⟨av, cv, rfl, _⟩ := hvw
        clear hv
        have hs := opsL_succ D k (by omega)
        have hlo := opLine_len (D.getD k OpS.none) (hA k)
        have HLO := Lib.hid hlo
        have HS := Lib.hid hs
        have HAT := Lib.hid (hA k)
        clear hs hol hlo
        generalize opsL (D.take k) = t at *
        generalize D.getD k OpS.none = op at *
        obtain ⟨c0, c1, c2, c3, c4⟩ := EC.out _ (HBL.out _ _ HW.swap)
        have CM : Hid (∀ W A', Holds E W A' → Calls Tryd.prog 9 #[opV op.kind op.perm op.n op.at' (.slice av op.data.length cv)] W (Ret E (.bool op.may) A')) := Lib.hid fun W A' h => purH h (refMayO (w := W) op.kind op.perm op.n op.at' av op.data.length cv)
        have COP : Hid (op.may = true → ∀ W A', Holds E W (base w :: A') → Calls Tryd.prog 10 #[opV op.kind op.perm op.n op.at' (.slice av op.data.length cv)] W (Pur W ((Value.string ⟨List.toArray (opLine op)⟩)))) := Lib.hid fun hm W A' h => refOp_any op HAT.out _ (HV.out.below (HBL.out _ _ h)) hm
        unfold opV at COP CM
        generalize opLine op = u at *
        cases hq : op.may
        · rw [hq] at CM HS
          clear hq
          go_wp2_with fail
          refine (CM.out _ _ HW).mono ?_
          rintro e w5 ⟨rfl, H5⟩
          go_wp2
          go_roundw
          case rel =>
            refine ⟨k + 1, by omega, by go_num, ?_, H5⟩
            rw [HS.out]
            simp
          case measure => simp [intOf]; omega
        · have hlu := HLO.out hq
          rw [hq] at CM HS
          have COP' := Lib.hid (COP.out hq)
          clear hq COP
          go_wp2_with fail
          refine (CM.out _ _ HW).mono ?_
          rintro e w5 ⟨rfl, H5⟩
          have hd5 := H5.cells
          clear hd c0 c1 c2 c3 c4
          obtain ⟨c0, c1, c2, c3, c4⟩ := EC.out _ (HBL.out _ _ H5.swap)
          go_wp2_with fail
          refine (purH H5 (COP'.out _ _ H5.swap)).mono ?_
          rintro e w6 ⟨rfl, H6⟩
          go_wp2
          go_roundw
          case rel =>
            refine ⟨k + 1, by omega, by go_num, ?_, H6⟩
            rw [HS.out]
            exact congrArg Value.string (bapp t u)
          case measure => simp [intOf]; omega
      · obtain hkn : k = n := by omega
        subst hkn
        rw [List.take_of_length_le (by omega)] at ht ⊢
        clear hol
        generalize opsL D = lo at *
        have CO' := Lib.hid (CO.out HG.out)
        clear CO CG CR CP
        by_cases h0 : r = 0
        · subst h0
          have CRP' := Lib.hid (CRP.out rfl)
          clear CRP
          go_wp2_with fail
          refine (purH HW (CO'.out _ _ HW.swap)).mono ?_
          rintro e w5 ⟨rfl, H5⟩
          have hd5 := H5.cells
          clear hd
          go_wp2_with fail
          refine (purH H5 (CRP'.out _ _ H5.swap)).mono ?_
          rintro e w6 ⟨rfl, H6⟩
          go_wp2_with fail
          refine (purH H6 (CL.out _ _ H6.swap)).mono ?_
          rintro e w7 ⟨rfl, H7⟩
          go_wp2
          go_ret
          exact ⟨rfl, HBL.out _ _ H7.drop⟩
        · have hp := HPV.out h0
          subst hp
          have hz : (r == 0) = false := by simp; exact h0
          go_wp2_with fail
          refine (purH HW (CO'.out _ _ HW.swap)).mono ?_
          rintro e w5 ⟨rfl, H5⟩
          have hd5 := H5.cells
          clear hd
          go_wp2_with fail
          refine (purH H5 (CL.out _ _ H5.swap)).mono ?_
          rintro e w7 ⟨rfl, H7⟩
          go_wp2
          go_ret
          exact ⟨rfl, HBL.out _ _ H7.drop⟩
end
end Go.Proofs.YtiidfgomfmfaoaaDoor
