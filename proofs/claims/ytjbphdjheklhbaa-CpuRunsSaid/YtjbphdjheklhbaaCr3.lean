/-
  Layer 48: the ops that lay code.
-/
import Derived.Test.YtjbphdjheklhbaaCr2
namespace Go.Proofs.Ytjbphdjheklhbaa
open Go.RowKit

theorem elem_op : ElemOf Try.prog 86 30 5 56 := ElemOf.mk (z := .agg #[.int .i64 0, .int .i64 0, .int .i64 0, .int .u64 0, .slice none 0 0]) (by kernel_rfl) (by kernel_rfl) rfl (by decide)
theorem ocells_one (L : List OpS) (hd : ∀ o ∈ L, ∃ a n c, o.d = .slice a n c) : ∀ u ∈ L.flatMap OpS.cells, u.oneCell' = true := by
  intro u hu
  obtain ⟨o, ho, hu⟩ := List.mem_flatMap.1 hu
  obtain ⟨a, n, c, h⟩ := hd o ho
  simp only [OpS.cells, List.mem_cons, List.not_mem_nil, or_false] at hu
  rcases hu with rfl | rfl | rfl | rfl | rfl <;> first | rfl | (rw [h]; rfl)
/-- How many stores. -/
def chN (n : Nat) : Nat := (n + 63) / 64
def laid (bs g o c : Nat) (B : List UInt8) (P : List Int) : List OpS := (List.range P.length).map mapO ++ (List.range (chN B.length)).map (stoO bs g o c B) ++ (List.range P.length).map fun i => proO (P.getD i 0) i

section
variable {e : Env} {w : World} {R : List HP}
set_option maxRecDepth 100000 in
set_option maxHeartbeats 2000000 in
theorem lawOps (bs pc : Nat) (B : List UInt8) (P : List Int) (hB : B.length ≤ 900) (hP : P.length ≤ 6) (g o c2 : Nat) (a1 a2 a3 : Option Addr) (cb c3 n3 : Nat) (hcap : B.length ≤ cb) (hA1 : B.length ≠ 0 → a1 = some ⟨g, o, none⟩)
    (hrp : ∀ w', Holds e w' R → Reads w' (.slice a2 P.length c2) 1 P.length (ints P)) (H : Holds e w R) :
    Calls Try.prog 33 #[.agg (codeCells bs pc (.slice a1 B.length cb) (.slice a2 P.length c2) (.slice a3 n3 c3)).toArray] w
      (RetEx e (fun v : Value => v) (fun v => row v 30 5 (laid bs g o cb B P).length ((laid bs g o cb B P).flatMap OpS.cells) :: R)) := by
  obtain ⟨nb, hnb⟩ : ∃ nb, B.length = nb := ⟨_, rfl⟩
  obtain ⟨np, hnp⟩ : ∃ np, P.length = np := ⟨_, rfl⟩
  have HNB := Lib.hid hnb
  have HNP := Lib.hid hnp
  have HRP := Lib.hid hrp
  obtain ⟨xb, hxb⟩ : ∃ xb, w.heap.size = xb := ⟨_, rfl⟩
  have H1 := H.alloc (.cells (codeCells bs pc (.slice a1 B.length cb) (.slice a2 P.length c2) (.slice a3 n3 c3)).toArray 83)
  rw [hxb] at H1
  rw [hnb, hnp] at H1 ⊢
  rw [hnp] at HRP
  rw [hnb] at hB hcap hA1
  have HA1 := Lib.hid hA1
  rw [hnp] at hP
  unfold codeCells at *
  have HX0 : Hid (∀ w' X Y, Holds e w' (Y :: pts xb (.cells (#[.int .u64 bs, .int .u64 pc, .slice a1 nb cb, .slice a2 np c2, .slice a3 n3 c3] : Array Value) 83 (0, 0)) :: X) → ∀ j, w'.cell? ⟨xb, j, none⟩ = (#[.int .u64 bs, .int .u64 pc, .slice a1 nb cb, .slice a2 np c2, .slice a3 n3 c3] : Array Value)[j]?) := Lib.hid fun w' X Y h' => h'.swap.cells
  clear hrp hnb hnp H hA1
  go_enter Try.func33, Try.ntmps33
  go_wp2_with fail
  go_loopw [3, 4] (fun l i wr => ∃ (k : Nat) (v : Value), v = l ∧ k ≤ np ∧ i = .int .i64 (k : Nat) ∧ Holds e wr (row v 30 5 k (((List.range k).map mapO).flatMap OpS.cells) :: pts xb (.cells (#[.int .u64 bs, .int .u64 pc, .slice a1 nb cb, .slice a2 np c2, .slice a3 n3 c3] : Array Value) 83 (0, 0)) :: R)) (fun _ i _ => np - (Go.RowKit.intOf i).toNat)
  case atStart => exact ⟨0, _, rfl, by omega, rfl, row.nil _ 5 H1⟩
  case round =>
    clear H1
    obtain ⟨k, v, rfl, hk, rfl, HX⟩ := hrel
    have hc := HX0.out _ _ _ HX
    by_cases hlt : k < np
    · obtain ⟨a, ha⟩ : ∃ a, 4096 * k = a := ⟨_, rfl⟩
      have i1 : (4096 : Int) * (k : Int) = (a : Int) := by omega
      have ab : a ≤ 50000 := by omega
      have HA : Holds e (wr.alloc (.cells #[.int .i64 0, .int .i64 7, .int .i64 0, .int .u64 a, .slice none 0 0] 30)) (row v 30 5 k (((List.range k).map mapO).flatMap OpS.cells) :: pts xb (.cells (#[.int .u64 bs, .int .u64 pc, .slice a1 nb cb, .slice a2 np c2, .slice a3 n3 c3] : Array Value) 83 (0, 0)) :: R) := (HX.alloc _).drop
      have HRL := reads_lits wr [.int .i64 0, .int .i64 7, .int .i64 0, .int .u64 a, .slice none 0 0] 30 1 5 rfl
      have HAA := Lib.hid ha
      clear HX ha
      go_wp2_with (at_builtin; refine wpList_append_sl rfl (.tmp 14) _ _ rfl 30 5 56 elem_op v k (((List.range k).map mapO).flatMap OpS.cells) rfl HA (.slice (some ⟨wr.heap.size, 0, none⟩) 1 1) 1 [.int .i64 0, .int .i64 7, .int .i64 0, .int .u64 a, .slice none 0 0] rfl HRL (by simp [Value.oneCell']) ?_ ?_ ?_)
      · unfold maxLen; omega
      · omega
      intro v5 w5 H5
      have HF : Hid (Holds e w5 (row v5 30 5 (k + 1) (((List.range (k + 1)).map mapO).flatMap OpS.cells) :: pts xb (.cells (#[.int .u64 bs, .int .u64 pc, .slice a1 nb cb, .slice a2 np c2, .slice a3 n3 c3] : Array Value) 83 (0, 0)) :: R)) := Lib.hid (by
        rw [List.range_succ, List.map_append, List.flatMap_append]
        have e1 : ([k].map mapO).flatMap OpS.cells = [.int .i64 0, .int .i64 7, .int .i64 0, .int .u64 a, .slice none 0 0] := by
          simp [mapO, OpS.cells, ← HAA.out]
        rw [e1]
        exact H5)
      clear HA HRL H5
      go_wp2_with fail
      go_roundw
      case rel => exact ⟨k + 1, v5, rfl, by omega, by go_num, HF.out⟩
      case measure => simp [Go.RowKit.intOf]; omega
    · obtain rfl : np = k := by omega
      have hkI : ¬ (np : Int) < (np : Int) := by omega
      go_wp2_with fail
      clear hc
      go_loopw [3, 5] (fun l i wr => ∃ (k : Nat) (v : Value), v = l ∧ k ≤ chN nb ∧ i = .int .i64 ((64 * k : Nat) : Int) ∧ Holds e wr (row v 30 5 (np + k) (((List.range np).map mapO ++ (List.range k).map (stoO bs g o cb B)).flatMap OpS.cells) :: pts xb (.cells (#[.int .u64 bs, .int .u64 pc, .slice a1 nb cb, .slice a2 np c2, .slice a3 n3 c3] : Array Value) 83 (0, 0)) :: R)) (fun _ i _ => nb + 64 - (Go.RowKit.intOf i).toNat)
      case atStart => exact ⟨0, _, rfl, Nat.zero_le _, rfl, by simpa using HX⟩
      case round =>
        clear HX
        obtain ⟨k, v2, rfl, hk2, rfl, HX⟩ := hrel
        have hc := HX0.out _ _ _ HX
        obtain ⟨i0, hi0⟩ : ∃ i0, 64 * k = i0 := ⟨_, rfl⟩
        rw [hi0]
        have hch : chN nb = (nb + 63) / 64 := rfl
        by_cases hlt2 : i0 < nb
        · obtain rfl : a1 = some ⟨g, o, none⟩ := HA1.out (by omega)
          obtain ⟨mn, hmn⟩ : ∃ mn, min nb (i0 + 64) = mn := ⟨_, rfl⟩
          have hm3 : mn ≤ nb ∧ i0 < mn ∧ mn ≤ i0 + 64 := by omega
          obtain ⟨hm1, hm2, hm4⟩ := hm3
          obtain ⟨A, hA⟩ : ∃ A, add64 bs i0 = A := ⟨_, rfl⟩
          have hw1 : IntKind.u64.wrap ((bs : Int) + (i0 : Int)) = (A : Int) := by rw [← hA]; exact add64_wrap bs i0
          have hA64 : A < 18446744073709551616 := by rw [← hA]; exact add64_lt bs i0
          have HST : Hid (stoO bs g o cb B k = ⟨4, 0, 0, A, .slice (some ⟨g, o + i0, none⟩) (mn - i0) (cb - i0), (B.drop i0).take 64⟩) := Lib.hid (by unfold stoO; rw [hi0, hA, HNB.out, hmn])
          have hck : ¬ cb = i0 := by omega
          have hmI : min (nb : Int) ((i0 : Int) + 64) = (mn : Int) := by omega
          have kI : (i0 : Int) ≤ (mn : Int) := by omega
          have mI : (mn : Int) ≤ (cb : Int) := by omega
          have kI0 : (0 : Int) ≤ (i0 : Int) := by omega
          obtain ⟨q, hq⟩ : ∃ q, i0 + 64 = q := ⟨_, rfl⟩
          have iq : (i0 : Int) + 64 = (q : Int) := by omega
          have qb : q ≤ 1000 := by omega
          have HQ := Lib.hid hq
          have hwq : IntKind.i64.wrap (q : Int) = q := IntWalk.i64_in _ (by omega)
          have hwi : IntKind.u64.wrap (i0 : Int) = i0 := by rw [IntKind.wrap_u64]; omega
          have hli : (i0 : Int) < (nb : Int) := by omega
          have f1 : np + k + 1 ≤ maxLen := by unfold maxLen; omega
          have f2 : (np + k + 1) * 56 ≤ 140737488355328 := by omega
          have hk3 : k + 1 ≤ chN nb := by omega
          have hk64 : 64 * (k + 1) = q := by omega
          have HK64 := Lib.hid hk64
          have HD := HX.drew
          have hcd := HX0.out _ _ _ HD
          by_cases h64 : nb ≤ q
          · have hme : mn = nb := by omega
            subst hme
            have x1 : (mn : Int) ≤ (q : Int) := by omega
            have x2 : ¬ q < mn := by omega
            have x3 : ¬ (q : Int) < (mn : Int) := by omega
            clear hmn hq hmI hA hi0 hk64 hch
            have e2 : ((List.range np).map mapO ++ (List.range (k + 1)).map (stoO bs g o cb B)).flatMap OpS.cells = ((List.range np).map mapO ++ (List.range k).map (stoO bs g o cb B)).flatMap OpS.cells ++ [.int .i64 4, .int .i64 0, .int .i64 0, .int .u64 A, .slice (some ⟨g, o + i0, none⟩) (mn - i0) (cb - i0)] := by
              rw [List.range_succ, List.map_append, ← List.append_assoc, List.flatMap_append (xs := _ ++ _)]
              congr 1
              rw [List.map_singleton, HST.out]
              simp [OpS.cells]
            have HE2 := Lib.hid e2
            clear e2
            go_wp2_with fail
            go_region_held3 (fun w' => ∀ j, w'.cell? ⟨xb, j, none⟩ = (#[.int .u64 bs, .int .u64 pc, .slice (some ⟨g, o, none⟩) mn cb, .slice a2 np c2, .slice a3 n3 c3] : Array Value)[j]?)
              (first | exact HX0.out _ _ _ (by assumption) | exact HX0.out _ _ _ (Holds.drop (Holds.alloc HD _)) | exact HX0.out _ _ _ (Holds.d1 (by assumption)))
              (first | (refine step_append_sl rfl (.tmp 28) (.tmp 45) _ rfl 30 5 56 elem_op _ (np + k) (((List.range np).map mapO ++ (List.range k).map (stoO bs g o cb B)).flatMap OpS.cells) rfl _ 1 [.int .i64 4, .int .i64 0, .int .i64 0, .int .u64 A, .slice (some ⟨g, o + i0, none⟩) (mn - i0) (cb - i0)] rfl (by simp [Value.oneCell']) f1 f2 (by first | exact HD | exact (HD.alloc _).swap | exact (HD.alloc _).drop) (by exact reads_lits wr [.int .i64 4, .int .i64 0, .int .i64 0, .int .u64 A, .slice (some ⟨g, o + i0, none⟩) (mn - i0) (cb - i0)] _ 1 5 rfl) ?_; intro v4 w4 H4))
            all_goals
              have HF := H4
              rw [← HE2.out] at HF
              have HF := Lib.hid HF
              clear HD H4 f1 f2 hc hcd
              go_wp2_with fail
              go_roundw
              case rel => exact ⟨k + 1, v4, rfl, hk3, by rw [HK64.out], by first | exact HF.out | exact HF.out.d1⟩
              case measure => simp [Go.RowKit.intOf]; omega
          · have hme : mn = q := by omega
            subst hme
            have x1 : ¬ (nb : Int) ≤ (mn : Int) := by omega
            have x2 : mn < nb := by omega
            have x3 : (mn : Int) < (nb : Int) := by omega
            clear hmn hq hmI hA hi0 hk64 hch
            have e2 : ((List.range np).map mapO ++ (List.range (k + 1)).map (stoO bs g o cb B)).flatMap OpS.cells = ((List.range np).map mapO ++ (List.range k).map (stoO bs g o cb B)).flatMap OpS.cells ++ [.int .i64 4, .int .i64 0, .int .i64 0, .int .u64 A, .slice (some ⟨g, o + i0, none⟩) (mn - i0) (cb - i0)] := by
              rw [List.range_succ, List.map_append, ← List.append_assoc, List.flatMap_append (xs := _ ++ _)]
              congr 1
              rw [List.map_singleton, HST.out]
              simp [OpS.cells]
            have HE2 := Lib.hid e2
            clear e2
            go_wp2_with fail
            go_region_held3 (fun w' => ∀ j, w'.cell? ⟨xb, j, none⟩ = (#[.int .u64 bs, .int .u64 pc, .slice (some ⟨g, o, none⟩) nb cb, .slice a2 np c2, .slice a3 n3 c3] : Array Value)[j]?)
              (first | exact HX0.out _ _ _ (by assumption) | exact HX0.out _ _ _ (Holds.drop (Holds.alloc HD _)) | exact HX0.out _ _ _ (Holds.d1 (by assumption)))
              (first | (refine step_append_sl rfl (.tmp 28) (.tmp 45) _ rfl 30 5 56 elem_op _ (np + k) (((List.range np).map mapO ++ (List.range k).map (stoO bs g o cb B)).flatMap OpS.cells) rfl _ 1 [.int .i64 4, .int .i64 0, .int .i64 0, .int .u64 A, .slice (some ⟨g, o + i0, none⟩) (mn - i0) (cb - i0)] rfl (by simp [Value.oneCell']) f1 f2 (by first | exact HD | exact (HD.alloc _).swap | exact (HD.alloc _).drop) (by exact reads_lits wr [.int .i64 4, .int .i64 0, .int .i64 0, .int .u64 A, .slice (some ⟨g, o + i0, none⟩) (mn - i0) (cb - i0)] _ 1 5 rfl) ?_; intro v4 w4 H4))
            all_goals
              have HF := H4
              rw [← HE2.out] at HF
              have HF := Lib.hid HF
              clear HD H4 f1 f2 hc hcd
              go_wp2_with fail
              go_roundw
              case rel => exact ⟨k + 1, v4, rfl, hk3, by rw [HK64.out], by first | exact HF.out | exact HF.out.d1⟩
              case measure => simp [Go.RowKit.intOf]; omega
        · have hli : ¬ (i0 : Int) < (nb : Int) := by omega
          have hkk : k = chN nb := by omega
          subst hkk
          go_wp2_with fail
          clear hc hch
          go_loopw [3, 6] (fun l i wr => ∃ (k : Nat) (v : Value), v = l ∧ k ≤ np ∧ i = .int .i64 (k : Nat) ∧ Holds e wr (row v 30 5 (np + chN nb + k) (((List.range np).map mapO ++ (List.range (chN nb)).map (stoO bs g o cb B) ++ (List.range k).map fun i => proO (P.getD i 0) i).flatMap OpS.cells) :: pts xb (.cells (#[.int .u64 bs, .int .u64 pc, .slice a1 nb cb, .slice a2 np c2, .slice a3 n3 c3] : Array Value) 83 (0, 0)) :: R)) (fun _ i _ => np - (Go.RowKit.intOf i).toNat)
          case atStart => exact ⟨0, _, rfl, Nat.zero_le _, rfl, by simpa using HX⟩
          case round =>
            clear HX
            obtain ⟨k, v3, rfl, hk3, rfl, HX⟩ := hrel
            have hc := HX0.out _ _ _ HX
            have hch : chN nb ≤ 20 := by unfold chN; omega
            by_cases hlt3 : k < np
            · obtain ⟨a, ha⟩ : ∃ a, 4096 * k = a := ⟨_, rfl⟩
              have i1 : (4096 : Int) * (k : Int) = (a : Int) := by omega
              have ab : a ≤ 50000 := by omega
              have HAA := Lib.hid ha
              obtain ⟨g2, o2, hg2, rr⟩ := (HRP.out _ HX.drop.drop).at (by omega)
              have c4 := rr k _ (ints_get (x := P.getD k 0) (get_getD (by rw [HNP.out]; exact hlt3)))
              subst hg2
              obtain ⟨p, hp⟩ : ∃ p, P.getD k 0 = p := ⟨_, rfl⟩
              rw [hp] at c4
              have HPP := Lib.hid hp
              have HA : Holds e (wr.alloc (.cells #[.int .i64 2, .int .i64 p, .int .i64 0, .int .u64 a, .slice none 0 0] 30)) (row v3 30 5 (np + chN nb + k) (((List.range np).map mapO ++ (List.range (chN nb)).map (stoO bs g o cb B) ++ (List.range k).map fun i => proO (P.getD i 0) i).flatMap OpS.cells) :: pts xb (.cells (#[.int .u64 bs, .int .u64 pc, .slice a1 nb cb, .slice (some ⟨g2, o2, none⟩) np c2, .slice a3 n3 c3] : Array Value) 83 (0, 0)) :: R) := (HX.alloc _).drop
              have HRL := reads_lits wr [.int .i64 2, .int .i64 p, .int .i64 0, .int .u64 a, .slice none 0 0] 30 1 5 rfl
              have kI : (k : Int) < (np : Int) := by omega
              generalize hL2 : (List.range np).map mapO ++ (List.range (chN nb)).map (stoO bs g o cb B) = L2 at *
              clear HX ha rr hp
              go_wp2_with (at_builtin; refine wpList_append_sl rfl (.tmp 54) _ _ rfl 30 5 56 elem_op v3 (np + chN nb + k) ((L2 ++ (List.range k).map fun i => proO (P.getD i 0) i).flatMap OpS.cells) rfl HA (.slice (some ⟨wr.heap.size, 0, none⟩) 1 1) 1 [.int .i64 2, .int .i64 p, .int .i64 0, .int .u64 a, .slice none 0 0] rfl HRL (by simp [Value.oneCell']) ?_ ?_ ?_)
              · unfold maxLen; omega
              · omega
              intro v5 w5 H5
              have e2 : (L2 ++ (List.range (k + 1)).map fun i => proO (P.getD i 0) i).flatMap OpS.cells = (L2 ++ (List.range k).map fun i => proO (P.getD i 0) i).flatMap OpS.cells ++ [.int .i64 2, .int .i64 p, .int .i64 0, .int .u64 a, .slice none 0 0] := by
                rw [List.range_succ, List.map_append, ← List.append_assoc, List.flatMap_append (xs := _ ++ _)]
                congr 1
                show (proO (P.getD k 0) k).cells ++ [] = _
                rw [HPP.out]
                simp [proO, OpS.cells, HAA.out]
              have HF : Hid (Holds e w5 (row v5 30 5 (np + chN nb + (k + 1)) ((L2 ++ (List.range (k + 1)).map fun i => proO (P.getD i 0) i).flatMap OpS.cells) :: pts xb (.cells (#[.int .u64 bs, .int .u64 pc, .slice a1 nb cb, .slice (some ⟨g2, o2, none⟩) np c2, .slice a3 n3 c3] : Array Value) 83 (0, 0)) :: R)) := Lib.hid (by
                rw [e2]
                first | exact H5 | (simp only [List.flatMap_append, List.append_assoc] at H5 ⊢; exact H5))
              clear HA HRL H5 e2
              go_wp2_with fail
              go_roundw
              case rel => exact ⟨k + 1, v5, rfl, by omega, by go_num, HF.out⟩
              case measure => simp [Go.RowKit.intOf]; omega
            · obtain rfl : np = k := by omega
              have kI : ¬ (np : Int) < (np : Int) := by omega
              have HLN : Hid ((laid bs g o cb B P).length = np + chN nb + np ∧ laid bs g o cb B P = (List.range np).map mapO ++ (List.range (chN nb)).map (stoO bs g o cb B) ++ (List.range np).map fun i => proO (P.getD i 0) i) := Lib.hid (by
                have h2 : laid bs g o cb B P = (List.range np).map mapO ++ (List.range (chN nb)).map (stoO bs g o cb B) ++ (List.range np).map fun i => proO (P.getD i 0) i := by unfold laid; rw [HNB.out, HNP.out]
                refine ⟨?_, h2⟩
                rw [h2]
                simp only [List.length_append, List.length_map, List.length_range])
              go_wp2_with fail
              go_ret
              refine ⟨v3, rfl, ?_⟩
              rw [HLN.out.1, HLN.out.2]
              exact HX.d1
end
end Go.Proofs.Ytjbphdjheklhbaa
