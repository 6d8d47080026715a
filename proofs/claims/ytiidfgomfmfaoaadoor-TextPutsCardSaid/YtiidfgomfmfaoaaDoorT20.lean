/-
  Text: the reference's Put.
-/
import Derived.Test.YtiidfgomfmfaoaaDoorT19
namespace Go.Proofs.YtiidfgomfmfaoaaDoor
open Go.RowKit
section
variable {w : World}
def failsP (C : List Bool) (k : Nat) : List UInt8 := (if k = 0 then [] else [102, 97, 105, 108, 115, 32]) ++ chL (C.take k) ++ (if k = C.length ∧ 0 < k then [10] else [])
theorem failsP_succ (C : List Bool) (k : Nat) (hk : k < C.length) : failsP C (k + 1) = failsP C k ++ ((if k = 0 then [102, 97, 105, 108, 115, 32] else []) ++ ([if C.getD k false then 43 else 45] ++ (if k + 1 = C.length then [10] else []))) := by
  have h : chL (C.take (k + 1)) = chL (C.take k) ++ [if C.getD k false then 43 else 45] := by
    unfold chL
    rw [List.take_add_one, List.getElem?_eq_getElem hk, List.getD_eq_getElem?_getD, List.getElem?_eq_getElem hk, Option.toList_some, List.map_append]
    rfl
  unfold failsP
  rw [h]
  have h1 : k ≠ C.length := by omega
  by_cases h0 : k = 0
  · subst h0; simp [chL, h1]
  · simp [h0, h1]
theorem failsP_len (C : List Bool) (k : Nat) (hk : k ≤ 4000) : (failsP C k).length ≤ 4010 := by
  unfold failsP
  simp only [List.length_append, chL_len, List.length_take]
  split <;> split <;> simp <;> omega
theorem failsP_end (C : List Bool) : failsP C C.length = failsL C := by
  unfold failsP failsL lineL
  rw [List.take_length]
  by_cases h : 0 < C.length
  · rw [if_neg (by omega), if_pos ⟨rfl, h⟩, if_pos h]
    simp [Lib.join_cons, Lib.joinTail]
  · rw [if_pos (by omega), if_neg (by omega), if_neg h]
    have : C = [] := List.eq_nil_of_length_eq_zero (by omega)
    subst this
    rfl
theorem confL_eq (F S L A : Int) : confL F S L A = [99, 111, 110, 102, 32] ++ (Lib.itoa F ++ ([32] ++ (Lib.itoa S ++ ([32] ++ (Lib.itoa L ++ ([32] ++ (Lib.itoa A ++ [10]))))))) := by
  unfold confL lineL
  simp [Lib.join_cons, Lib.joinTail]

theorem addS (x y z : List UInt8) (h : x ++ y = z) (hl : z.length ≤ 1000000000) (W : World) : (Op.stringOp .add ⟨x.toArray⟩ ⟨y.toArray⟩).run Tryd.prog W = .ok ((Value.string ⟨List.toArray (z)⟩)) W := by
  subst h
  rw [run_string_add_sum W _ _ (by simp [ByteArray.size] at hl ⊢; omega), bapp]

set_option maxRecDepth 100000 in
set_option maxHeartbeats 1000000 in
theorem refPut (F S L A : Int) (ch : Option Addr) (nch cch : Nat) (C : List Bool) (hCl : C.length = nch) (hC : ChR w ch C) (ad : Option Addr) (n c : Nat) (D : List OpS) (hD : OpsR w ad n D) (hA : AtOk D) (he : rightE F S L A nch D = 0) :
    Calls Tryd.prog 12 #[scriptV F S L A (.slice ch nch cch) (.slice ad n c)] w (Pur w ((Value.string ⟨List.toArray (putL F S L A C D)⟩))) := by
  obtain ⟨hcf, hnch, hn4, hmay⟩ := right_ok he
  have hl := hD.1
  have HD := Lib.hid hD
  have HCH := Lib.hid hC
  clear hD hC he
  have H0 := Holds.start w
  generalize hE : (⟨w.os, w.output, w.tape⟩ : Env) = E at *
  have hbel : ∀ w' A, Holds E w' (base w :: A) → Below w.heap.size w w' := fun w' A h => by subst hE; exact h.below rfl rfl rfl
  have HBL := Lib.hid hbel
  clear hE hbel
  have H1 := H0.alloc (.cells #[.int .i64 F, .int .i64 S, .int .i64 L, .int .i64 A, .slice ch nch cch, .slice ad n c] 27)
  obtain ⟨bx, hbx⟩ : ∃ bx, w.heap.size = bx := ⟨_, rfl⟩
  rw [hbx] at H1
  have hc1 := H1.cells
  obtain ⟨b1, b2, b3, b4⟩ := confB_bd hcf
  have i1 := itoa_len b1.1 b1.2
  have i2 := itoa_len b2.1 b2.2
  have i3 := itoa_len b3.1 b3.2
  have i4 := itoa_len b4.1 b4.2
  have CN : Hid (∀ x : Int, 0 ≤ x → x ≤ 255 → ∀ W A', Holds E W A' → Calls Tryd.prog 26 #[.int .i64 x] W (Ret E ((Value.string ⟨List.toArray (Lib.itoa x)⟩)) A')) := Lib.hid fun x h0 h1 W A' h => purH h (refNum x h0 h1)
  have M1 := Lib.hid (CN.out F b1.1 b1.2)
  have M2 := Lib.hid (CN.out S b2.1 b2.2)
  have M3 := Lib.hid (CN.out L b3.1 b3.2)
  have M4 := Lib.hid (CN.out A b4.1 b4.2)
  have hlc := confL_len hcf
  unfold putL
  have hce := Lib.hid (confL_eq F S L A)
  generalize confL F S L A = lc at *
  clear b1 b2 b3 b4 CN hcf
  generalize Lib.itoa F = sF at *
  generalize Lib.itoa S = sS at *
  generalize Lib.itoa L = sL at *
  generalize Lib.itoa A = sA at *
  obtain ⟨p1, hp1⟩ : ∃ p, [99, 111, 110, 102, 32] ++ sF = p := ⟨_, rfl⟩
  obtain ⟨p2, hp2⟩ : ∃ p, p1 ++ [32] = p := ⟨_, rfl⟩
  obtain ⟨p3, hp3⟩ : ∃ p, p2 ++ sS = p := ⟨_, rfl⟩
  obtain ⟨p4, hp4⟩ : ∃ p, p3 ++ [32] = p := ⟨_, rfl⟩
  obtain ⟨p5, hp5⟩ : ∃ p, p4 ++ sL = p := ⟨_, rfl⟩
  obtain ⟨p6, hp6⟩ : ∃ p, p5 ++ [32] = p := ⟨_, rfl⟩
  obtain ⟨p7, hp7⟩ : ∃ p, p6 ++ sA = p := ⟨_, rfl⟩
  obtain ⟨p8, hp8⟩ : ∃ p, p7 ++ [10] = p := ⟨_, rfl⟩
  have hq1 : p1.length ≤ 200 := by have h := congrArg List.length hp1; simp at h; omega
  have hq2 : p2.length ≤ 400 := by have h := congrArg List.length hp2; simp at h; omega
  have hq3 : p3.length ≤ 600 := by have h := congrArg List.length hp3; simp at h; omega
  have hq4 : p4.length ≤ 800 := by have h := congrArg List.length hp4; simp at h; omega
  have hq5 : p5.length ≤ 1000 := by have h := congrArg List.length hp5; simp at h; omega
  have hq6 : p6.length ≤ 1200 := by have h := congrArg List.length hp6; simp at h; omega
  have hq7 : p7.length ≤ 1400 := by have h := congrArg List.length hp7; simp at h; omega
  have hq8 : p8.length ≤ 1600 := by have h := congrArg List.length hp8; simp at h; omega
  have ha1 := addS [99, 111, 110, 102, 32] sF p1 hp1 (by omega)
  have ha2 := addS p1 [32] p2 hp2 (by omega)
  have ha3 := addS p2 sS p3 hp3 (by omega)
  have ha4 := addS p3 [32] p4 hp4 (by omega)
  have ha5 := addS p4 sL p5 hp5 (by omega)
  have ha6 := addS p5 [32] p6 hp6 (by omega)
  have ha7 := addS p6 sA p7 hp7 (by omega)
  have ha8 := addS p7 [10] p8 hp8 (by omega)
  have hlp : lc = p8 := by rw [hce.out, ← hp8, ← hp7, ← hp6, ← hp5, ← hp4, ← hp3, ← hp2, ← hp1]; simp
  subst hlp
  clear hce hp1 hp2 hp3 hp4 hp5 hp6 hp7 hp8 hq1 hq2 hq3 hq4 hq5 hq6 hq7 hq8 i1 i2 i3 i4
  unfold scriptV
  have H3 := H1.alloc (.cells #[.int .i64 F, .int .i64 S, .int .i64 L, .int .i64 A] 23)
  have hc3 := H3.cells
  obtain ⟨bc, hbc⟩ : ∃ x, (w.alloc (.cells #[.int .i64 F, .int .i64 S, .int .i64 L, .int .i64 A, .slice ch nch cch, .slice ad n c] 27)).heap.size = x := ⟨_, rfl⟩
  rw [hbc] at H3 hc3
  obtain ⟨r, hr⟩ : ∃ r, lc ++ failsL C ++ opsL D = r := ⟨_, rfl⟩
  rw [hr]
  have HR := Lib.hid hr
  clear hr
  go_enter Tryd.func12, Tryd.ntmps12
  go_wp2_with fail
  obtain ⟨AA, hAA⟩ : ∃ AA, AA = [pts bc (.cells #[.int .i64 F, .int .i64 S, .int .i64 L, .int .i64 A] 23 (0, 0)), pts bx (.cells #[.int .i64 F, .int .i64 S, .int .i64 L, .int .i64 A, .slice ch nch cch, .slice ad n c] 27 (0, 0)), base w] := ⟨_, rfl⟩
  have KC : Hid (∀ W, Holds E W AA → W.cell? ⟨bc, 0, none⟩ = some (.int .i64 F) ∧ W.cell? ⟨bc, 1, none⟩ = some (.int .i64 S) ∧ W.cell? ⟨bc, 2, none⟩ = some (.int .i64 L) ∧ W.cell? ⟨bc, 3, none⟩ = some (.int .i64 A)) := Lib.hid fun W h => by
    subst hAA
    exact ⟨h.cells 0, h.cells 1, h.cells 2, h.cells 3⟩
  rw [← hAA] at H3
  clear hc1 hc3 H1 H0
  obtain ⟨I, Wf, hI, hW, hWs⟩ := worlds_of H3
  have q0 : ∀ i, (Wf i).cell? ⟨bc, 0, none⟩ = some (.int .i64 F) := fun i => (KC.out _ (hW i)).1
  have q1 : ∀ i, (Wf i).cell? ⟨bc, 1, none⟩ = some (.int .i64 S) := fun i => (KC.out _ (hW i)).2.1
  have q2 : ∀ i, (Wf i).cell? ⟨bc, 2, none⟩ = some (.int .i64 L) := fun i => (KC.out _ (hW i)).2.2.1
  have q3 : ∀ i, (Wf i).cell? ⟨bc, 3, none⟩ = some (.int .i64 A) := fun i => (KC.out _ (hW i)).2.2.2
  refine wp_region_holds hWs H3 (by kernel_rfl) (by kernel_rfl) ?_
  (repeat (go_big_quiet_step ((first | (go_at_call 26; with_reducible exact quietH (M1.out _ _ (hW _)) hWs) | (go_at_call 26; with_reducible exact quietH (M2.out _ _ (hW _)) hWs) | (go_at_call 26; with_reducible exact quietH (M3.out _ _ (hW _)) hWs) | (go_at_call 26; with_reducible exact quietH (M4.out _ _ (hW _)) hWs))))); refine wpQuiet_nil ?_; intro _ hw'; obtain ⟨nq, hw''⟩ := hw'; subst hw''
  have HQ := hW nq
  subst hAA
  clear q0 q1 q2 q3 KC H3 M1 M2 M3 M4 ha1 ha2 ha3 ha4 ha5 ha6 ha7 ha8
  have HQX := HQ.drop
  clear HQ hbc hbx
  go_wp2
  go_loopw [4, 5] (fun t i wr => ∃ k : Nat, k ≤ nch ∧ i = .int .i64 (k : Nat) ∧ t = (Value.string ⟨List.toArray (lc ++ failsP C k)⟩) ∧ Holds E wr [pts bx (.cells #[.int .i64 F, .int .i64 S, .int .i64 L, .int .i64 A, .slice ch nch cch, .slice ad n c] 27 (0, 0)), base w]) (fun _ i _ => nch - (intOf i).toNat)
  case atStart => exact ⟨0, by omega, rfl, by simp [failsP, chL], HQX⟩
  case round =>
    clear HQX
    obtain ⟨k, hk, rfl, rfl, HW⟩ := hrel
    have hd := HW.cells
    have hfl := failsP_len C k (by omega)
    by_cases hlt : k < nch
    · obtain ⟨b, o, rfl, c0⟩ := (HCH.out.below (HBL.out _ _ HW.drop)) k (by omega)
      have hs := failsP_succ C k (by omega)
      have HS := Lib.hid hs
      clear hs
      have ht : (lc ++ failsP C k).length ≤ 100000 := by rw [List.length_append]; omega
      have hcl2 : (lc ++ failsP C (k + 1)) = (lc ++ failsP C k) ++ ((if k = 0 then [102, 97, 105, 108, 115, 32] else []) ++ ([if C.getD k false then 43 else 45] ++ (if k + 1 = C.length then [10] else []))) := by rw [HS.out, List.append_assoc]
      have HT := Lib.hid hcl2
      clear HS hfl hcl2
      generalize lc ++ failsP C k = t at *
      generalize hq : C.getD k false = q at *
      rw [hCl] at HT
      by_cases hk0 : k = 0
      all_goals by_cases hk1 : k + 1 = nch
      all_goals
        have HK0 := Lib.hid hk0
        have HK1 := Lib.hid hk1
        first
          | have hz0 : ((k : Int) == 0) = true := by simp; omega
          | have hz0 : ((k : Int) == 0) = false := by simp; omega
        first
          | have hz1 : ((k : Int) == (nch : Int) - 1) = true := by simp; omega
          | have hz1 : ((k : Int) == (nch : Int) - 1) = false := by simp; omega
        clear hk0 hk1
        cases q
      all_goals
        go_wp2
        go_roundw
        case rel =>
          refine ⟨k + 1, by omega, by go_num, ?_, HW⟩
          rw [HT.out]
          have hk0 := HK0.out
          have hk1 := HK1.out
          first | (simp [bapp, hk0, hk1]; done) | (simp [bapp, hk0]; omega)
        case measure => simp [intOf]; omega
    · obtain hkn : k = nch := by omega
      have hfe : failsP C k = failsL C := by rw [hkn, ← hCl, failsP_end]
      rw [hfe] at hfl ⊢
      have hlt : (lc ++ failsL C).length ≤ 100000 := by rw [List.length_append]; omega
      subst hkn
      clear hfe hfl HCH hlc hCl
      generalize lc ++ failsL C = t0 at *
      go_wp2
      go_loopw [4, 6] (fun t i wr => ∃ j : Nat, j ≤ n ∧ i = .int .i64 (j : Nat) ∧ t = (Value.string ⟨List.toArray (t0 ++ opsL (D.take j))⟩) ∧ Holds E wr [pts bx (.cells #[.int .i64 F, .int .i64 S, .int .i64 L, .int .i64 A, .slice ch k cch, .slice ad n c] 27 (0, 0)), base w]) (fun _ i _ => n - (intOf i).toNat)
      case atStart => exact ⟨0, by omega, rfl, by simp [opsL], HW⟩
      case round =>
        clear HW hd
        obtain ⟨k, hk, rfl, rfl, HW⟩ := hrel
        have hd := HW.cells
        have hol := opsL_len D hA k (by omega)
        have ht : (t0 ++ opsL (D.take k)).length ≤ 100000000 := by rw [List.length_append]; omega
        by_cases hlt : k < n
        · obtain ⟨b, o, v, rfl, c0, c1, c2, c3, c4, hv⟩ := HD.out.2 k hlt
          have hbw := HBL.out _ _ HW.swap
          have hbk := World.block_lt_of_cell? _ _ c0
          have c0 := (hbw.cell (p := ⟨b, o + k * 5, none⟩) hbk).trans c0
          have c1 := (hbw.cell (p := ⟨b, o + k * 5 + 1, none⟩) hbk).trans c1
          have c2 := (hbw.cell (p := ⟨b, o + k * 5 + 2, none⟩) hbk).trans c2
          have c3 := (hbw.cell (p := ⟨b, o + k * 5 + 3, none⟩) hbk).trans c3
          have c4 := (hbw.cell (p := ⟨b, o + k * 5 + 4, none⟩) hbk).trans c4
          clear hbk hbw
          have hvw := (hv : BytesR _ _ _)
          have HV := Lib.hid hvw
          obtain ⟨av, cv, rfl, _⟩ := hvw
          clear hv
          have hs := opsL_succ D k (by omega)
          have hm : (D.getD k OpS.none).may = true := by
            rw [List.getD_eq_getElem?_getD, List.getElem?_eq_getElem (by omega : k < D.length)]
            exact hmay _ (List.getElem_mem _)
          have hlo := opLine_len _ (hA k) hm
          rw [if_pos hm] at hs
          have hs2 : t0 ++ opsL (D.take (k + 1)) = (t0 ++ opsL (D.take k)) ++ opLine (D.getD k OpS.none) := by rw [hs, List.append_assoc]
          have HS := Lib.hid hs2
          have HAT := Lib.hid (hA k)
          have HM := Lib.hid hm
          clear hs hs2 hol hm
          generalize t0 ++ opsL (D.take k) = t at *
          generalize D.getD k OpS.none = op at *
          have COP : Hid (∀ W A, Holds E W (base w :: A) → Calls Tryd.prog 10 #[opV op.kind op.perm op.n op.at' (.slice av op.data.length cv)] W (Pur W ((Value.string ⟨List.toArray (opLine op)⟩)))) := Lib.hid fun W A h => refOp_any op HAT.out _ (HV.out.below (HBL.out _ _ h)) HM.out
          unfold opV at COP
          generalize opLine op = u at *
          go_wp2_with fail
          refine (purH HW (COP.out _ _ HW.swap)).mono ?_
          rintro e w5 ⟨rfl, H5⟩
          go_wp2
          go_roundw
          case rel =>
            refine ⟨k + 1, by omega, by go_num, ?_, H5⟩
            rw [HS.out]
            exact congrArg Value.string (bapp t u)
          case measure => simp [intOf]; omega
        · obtain hkn : k = n := by omega
          subst hkn
          have hte : t0 ++ opsL (D.take k) = r := by rw [List.take_of_length_le (by omega)]; exact HR.out
          rw [hte] at ht ⊢
          clear hte hol
          go_wp2
          go_ret
          exact ⟨rfl, HBL.out _ _ HW.drop⟩
end
end Go.Proofs.YtiidfgomfmfaoaaDoor
