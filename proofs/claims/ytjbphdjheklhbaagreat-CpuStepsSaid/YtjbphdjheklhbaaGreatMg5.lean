import Derived.Test.YtjbphdjheklhbaaGreatMg3
import Derived.Test.YtjbphdjheklhbaaGreatMg4
import Derived.Test.YtjbphdjheklhbaaGreatMg2
/-
  Layer 48, CpuSteps: the walk.
-/
namespace Go.Proofs.YtjbphdjheklhbaaGreat
open Go.RowKit

theorem ModOk.strip {M : List Pg} (h : ModOk M) : ModOk (stripM M) := by
  unfold stripM
  refine ⟨List.pairwise_map.2 h.rise, ?_, ?_, ?_⟩
  all_goals
    intro x hx
    obtain ⟨y, hy, rfl⟩ := List.mem_map.1 hx
  · exact h.lt y hy
  · exact h.perm y hy
  · exact h.len y hy
theorem strip_len (M : List Pg) : (stripM M).length = M.length := List.length_map _
theorem opP_len (M : List Pg) (o : OpS) (p : Nat × Nat) : (opP M o p).length ≤ M.length + 1 := by
  unfold opP
  split
  · unfold mapP; split
    · exact ins_len _ _
    · omega
  · split
    · unfold proP; split
      · unfold setPerm; simp
      · omega
    · unfold stoP; split
      · rw [wrb_length]; omega
      · omega
theorem stoP_len (M : List Pg) (a : Nat) (ds : List UInt8) : (stoP M a ds).length = M.length := by
  unfold stoP; split
  · rw [wrb_length]
  · rfl
theorem execC_len (x : InsS) (M : List Pg) (C : CpS) : (execC x M C).2.2.length = M.length := by
  unfold execC
  split <;> first | rfl | exact stoP_len _ _ _
theorem stepS_len (M : List Pg) (C : CpS) : (stepS M C).2.2.length = M.length := by
  unfold stepS
  repeat' split
  all_goals first | rfl | exact execC_len _ _ _
theorem mod_ok {e : Env} {w : World} {R : List HP} {m : Nat} {M : List Pg} (H : Holds e w (modH m M :: R)) : ModOk M := (mod_open H).choose_spec.1
theorem told_read8 {e : Env} {w : World} {R : List HP} {L : List PgV} {q : PgV} (hq : q ∈ L) (H : Holds e w (all toldH L :: R)) : RdB w q.d q.bs := by
  obtain ⟨i, hi⟩ := List.mem_iff_getElem?.1 hq
  have h := Holds.focus hi H
  exact bts.reads (v := q.d) (l := q.bs) h
section
set_option maxRecDepth 100000 in
set_option maxHeartbeats 4000000 in
theorem steps_walk (bs pc : Nat) (hpc : pc < 18446744073709551616) (B : List UInt8) (P : List Int) (ns : List Nat) (hns : ∀ x ∈ ns, x < 18446744073709551616) (v1 v2 v3 : Value) (nn : Nat) (hnn : nn ≤ 255)
    (hBl : B.length ≤ 4611686018427387904) (hPl : P.length ≤ 4611686018427387904) (hnl : ns.length ≤ 4611686018427387904) (w : World) (hr1 : RdB w v1 B) (hr2 : Reads w v2 1 P.length (ints P)) (hr3 : Reads w v3 1 ns.length (u64v ns)) :
    Calls Tryz.prog 3 #[.agg #[.int .u64 bs, .int .u64 pc, v1, v2, v3], .int .u8 nn] w (fun e w' => e = .returned (.bool true) ∧ Below w.heap.size w w') := by
  have H0 := Holds.start w
  generalize hE : (⟨w.os, w.output, w.tape⟩ : Env) = E at *
  have hbel : ∀ w' A, Holds E w' (base w :: A) → Below w.heap.size w w' := fun w' A h => by subst hE; exact h.below rfl rfl rfl
  have HBL := Lib.hid hbel
  clear hE hbel
  have CLv := Lib.hid fun w' X (h : Holds E w' X) => lives48 h
  have HR1 : Hid (∀ w' X, Holds E w' (base w :: X) → RdB w' v1 B) := Lib.hid fun w' X h => Reads.based hr1 h
  have HR2 : Hid (∀ w' X, Holds E w' (base w :: X) → Reads w' v2 1 P.length (ints P)) := Lib.hid fun w' X h => Reads.based hr2 h
  have HR3 : Hid (∀ w' X, Holds E w' (base w :: X) → Reads w' v3 1 ns.length (u64v ns)) := Lib.hid fun w' X h => Reads.based hr3 h
  obtain ⟨a1, c1, rfl⟩ := hr1.shape
  obtain ⟨a2, c2, rfl⟩ := hr2.shape
  obtain ⟨a3, c3, rfl⟩ := hr3.shape
  obtain ⟨g, o, hA1, hcap⟩ : ∃ g o, (B.length ≠ 0 → a1 = some ⟨g, o, none⟩) ∧ B.length ≤ c1 := by
    have hc : B.length ≤ c1 := by
      rcases hr1.2 with ⟨h, h0⟩ | ⟨a, c, h, hc, _⟩
      · omega
      · cases h; exact hc
    by_cases h0 : B.length = 0
    · exact ⟨0, 0, fun h => absurd h0 h, hc⟩
    · obtain ⟨g, o, h, _⟩ := Reads.at hr1 (by omega)
      exact ⟨g, o, fun _ => h, hc⟩
  obtain ⟨nb, hnb⟩ : ∃ nb, B.length = nb := ⟨_, rfl⟩
  obtain ⟨np, hnp⟩ : ∃ np, P.length = np := ⟨_, rfl⟩
  obtain ⟨nr, hnr⟩ : ∃ nr, ns.length = nr := ⟨_, rfl⟩
  obtain ⟨xb, hxb⟩ : ∃ xb, w.heap.size = xb := ⟨_, rfl⟩
  have H1 := H0.alloc (.cells (codeCells bs pc (.slice a1 B.length c1) (.slice a2 P.length c2) (.slice a3 ns.length c3)).toArray 27)
  rw [hxb] at H1
  have CG := Lib.hid fun w' X (h : Holds E w' X) => lawGreat bs pc nb np nr a1 a2 a3 c1 c2 c3 (hnb ▸ hBl) (hnp ▸ hPl) (hnr ▸ hnl) h
  rw [hnb, hnp, hnr] at H1 ⊢
  have HX0 : Hid (∀ w' X, Holds E w' (pts xb (.cells (codeCells bs pc (.slice a1 nb c1) (.slice a2 np c2) (.slice a3 nr c3)).toArray 27 (0, 0)) :: X) → ∀ j, w'.cell? ⟨xb, j, none⟩ = (#[.int .u64 bs, .int .u64 pc, .slice a1 nb c1, .slice a2 np c2, .slice a3 nr c3] : Array Value)[j]?) := Lib.hid fun w' X h' => h'.cells
  unfold codeCells at CG
  have N1 := Lib.hid fun w' => cpuNilRun (w := w')
  have N2 := Lib.hid fun w' => cpuNilStep (w := w')
  have N3 := Lib.hid fun w' => cpuNilPC (w := w')
  have N4 := Lib.hid fun w' => cpuNilDone (w := w')
  have N5 := Lib.hid fun w' => cpuNilHalted (w := w')
  have N6 := Lib.hid fun w' => cpuNilCopy (w := w')
  have N7 := Lib.hid fun w' X (h : Holds E w' X) => cpuNilRegs h
  have hre : ∀ w, (binOp .neq 37 (.agg #[.int .u64 0, .int .u64 0, .int .u64 0, .int .u64 0]) (.agg #[.int .u64 0, .int .u64 0, .int .u64 0, .int .u64 0])).run Tryz.prog w = .ok (.bool false) w := fun w => by kernel_rfl
  have hri : ∀ w, (Op.equalIn 10000 37 (.agg #[.int .u64 0, .int .u64 0, .int .u64 0, .int .u64 0]) (.agg #[.int .u64 0, .int .u64 0, .int .u64 0, .int .u64 0])).run Tryz.prog w = .ok true w := fun w => by kernel_rfl
  clear hr1 hr2 hr3 H0
  obtain ⟨gg, hgg⟩ : ∃ gg, greatC nb np nr = gg := ⟨_, rfl⟩
  rw [hgg] at CG
  go_enter Tryz.func3, Tryz.ntmps3
  go_wp2_with fail
  refine (N1.out _).mono ?_
  rintro en w1 ⟨rfl, n1, rfl⟩
  go_wp2_with fail
  refine (N2.out _).mono ?_
  rintro en w2 ⟨rfl, n2, rfl⟩
  go_wp2_with fail
  refine (N3.out _).mono ?_
  rintro en w2 ⟨rfl, n3, rfl⟩
  go_wp2_with fail
  refine (N4.out _).mono ?_
  rintro en w2 ⟨rfl, n4, rfl⟩
  go_wp2_with fail
  refine (N5.out _).mono ?_
  rintro en w2 ⟨rfl, n5, rfl⟩
  go_wp2_with fail
  refine (N6.out _).mono ?_
  rintro en w2 ⟨rfl, n6, rfl⟩
  go_wp2_with fail
  refine (N7.out _ _ (H1.drewN _)).mono ?_
  rintro en w3 ⟨rfl, H3⟩
  have hx3 := HX0.out _ _ H3
  clear H1 N1 N2 N3 N4 N5 N6 N7
  go_wp2_with fail
  refine (CG.out _ _ H3).mono ?_
  rintro en w4 ⟨rfl, H4⟩
  clear H3 hx3 CG hre hri
  cases gg
  · have hsm : nb ≤ 900 ∧ np ≤ 6 ∧ nr ≤ 20 := by unfold greatC at hgg; simp at hgg; omega
    obtain ⟨L, hL⟩ : ∃ L, laid bs g o c1 B P = L := ⟨_, rfl⟩
    have hLl : L.length ≤ 1000 := hL ▸ laid_len bs g o c1 B P (by omega) (by omega)
    have HBX : Hid (∀ X : List HP, (∀ w', Holds E w' X → Holds E w' (base w :: [])) → ∀ o' ∈ L, o'.wr ∧ OpOk E X o') := Lib.hid fun X hX o' ho => by
      rw [← hL] at ho
      exact laid_ok (by omega) hA1 (fun w' h => HR1.out w' [] (hX w' h)) o' ho
    have CN := Lib.hid fun w' X (h : Holds E w' X) => modNew h
    have CO : Hid (∀ w' X, (∀ w'', Holds E w'' X → Holds E w'' (base w :: [])) → Holds E w' X → Calls Tryz.prog 14 #[.agg #[.int .u64 bs, .int .u64 pc, .slice a1 nb c1, .slice a2 np c2, .slice a3 nr c3]] w'
        (RetEx E (fun v : Value => v) (fun v => row v 48 5 L.length (L.flatMap OpS.cells) :: X))) := Lib.hid fun w' X hX h => by
      have := lawOps bs pc B P (by omega) (by omega) g o c2 a1 a2 a3 c1 c3 nr hcap hA1 (fun w'' g' => HR2.out w'' [] (hX w'' g')) h
      rw [hL, hnb, hnp] at this
      exact this
    have CD : Hid (∀ w' m M blk (o' : OpS) X, o' ∈ L → (∀ w'', Holds E w'' X → Holds E w'' (base w :: [])) → Holds E w' (pts blk (.cells o'.cells.toArray 48 (0, 0)) :: modH m M :: X) → Calls Tryz.prog 15 #[.pointer (some ⟨m, 0, none⟩), .slice (some ⟨blk, 0, none⟩) 1 1] w'
        (RetEx E (fun x : Value × (Nat × Nat) => x.1) (fun x => modH m (opP M o' x.2) :: X))) := Lib.hid fun w' m M blk o' X ho hX h => by
      obtain ⟨hwr, hok⟩ := HBX.out (pts blk (.cells o'.cells.toArray 48 (0, 0)) :: X) (fun w'' g' => hX w'' g'.drop) o' ho
      exact (modDo1 o' (.slice (some ⟨blk, 0, none⟩) 1 1) (fun w'' g' => reads_op 1 5 rfl g') hwr hok h.swap).mono fun _ _ ⟨x, h1, h2⟩ => ⟨x, h1, h2.re 3 [1]⟩
    have CRD : Hid (∀ w' M v (o' : OpS) X, o' ∈ L → (∀ w'', Holds E w'' X → Holds E w'' (base w :: [])) → ModOk M → M.length ≤ 1000 → Holds E w' (refH v (stripM M) :: X) → Calls Tryz.prog 16 #[v, o'.val] w'
        (RetEx E (fun v' : Value => .tuple #[v', ansVal (opE (stripM M) o') (.slice none 0 0)]) (fun v' => refH v' (opP (stripM M) o' (0, 0)) :: X))) := Lib.hid fun w' M v o' X ho hX hO hl h => by
      obtain ⟨hwr, hok⟩ := HBX.out X hX o' ho
      exact ref38W hO.strip (by rw [strip_len]; omega) o' hwr hok h
    obtain ⟨C0, hC0⟩ : ∃ C0 : CpS, (⟨begR ns, pc, 0, false⟩ : CpS) = C0 := ⟨_, rfl⟩
    have HC0 : Hid (CpOk C0 ∧ C0.done = 0) := Lib.hid (hC0 ▸ ⟨begR_ok hns hpc 0 false, rfl⟩)
    have CW : Hid (∀ w' X, (∀ w'', Holds E w'' X → Holds E w'' (base w :: [])) → Holds E w' X → Calls Tryz.prog 17 #[.int .u64 pc, .slice a3 nr c3] w' (RetEx E (fun b : Nat => .pointer (some ⟨b, 0, none⟩)) (fun b => cpH b C0 :: X))) := Lib.hid fun w' X hX h => by
      have := cpuNew pc ns (.slice a3 nr c3) (fun w'' g' => by rw [← hnr]; exact HR3.out w'' [] (hX w'' g')) h
      rw [hC0] at this
      exact this
    have CB : Hid (∀ w' X, (∀ w'', Holds E w'' X → Holds E w'' (base w :: [])) → Holds E w' X → Calls Tryz.prog 18 #[.agg #[.int .u64 bs, .int .u64 pc, .slice a1 nb c1, .slice a2 np c2, .slice a3 nr c3]] w' (Ret E (refCV C0) X)) := Lib.hid fun w' X hX h => by
      have := lawBegun bs pc nb np a1 a2 c1 c2 ns (by omega) a3 c3 (fun w'' g' => HR3.out w'' [] (hX w'' g')) h
      rw [hC0, hnr] at this
      exact this
    clear hgg hnb hnp hnr hL hC0 hA1 hcap
    go_wp2_with fail
    refine (CN.out _ _ H4).mono ?_
    rintro en w5 ⟨m, rfl, H5⟩
    have hx5 := HX0.out _ _ H5.drop
    clear H4
    go_wp2_with fail
    refine (CO.out _ _ (fun _ g' => g'.drop.drop) H5).mono ?_
    rintro en w6 ⟨va, rfl, H6⟩
    clear H5 hx5 CN CO
    obtain ⟨aa, ca, rfl⟩ := row_shape H6
    have H7 : Holds E w6 (refH (.slice none 0 0) (stripM []) :: modH m [] :: row (.slice aa L.length ca) 48 5 L.length (L.flatMap OpS.cells) :: pts xb (.cells (codeCells bs pc (.slice a1 nb c1) (.slice a2 np c2) (.slice a3 nr c3)).toArray 27 (0, 0)) :: base w :: []) := row.nil _ 3 H6.swap
    clear H6
    obtain ⟨nL, hnL⟩ : ∃ nL, L.length = nL := ⟨_, rfl⟩
    have HNL := Lib.hid hnL
    rw [hnL] at H7 hLl ⊢
    clear hnL
    go_wp2_with fail
    go_loopw [9, 11] (fun l i wr => ∃ (k : Nat) (M : List Pg) (v : Value), v = l ∧ k ≤ nL ∧ i = .int .i64 (k : Nat) ∧ M.length ≤ k ∧ Holds E wr (refH v (stripM M) :: modH m M :: row (.slice aa nL ca) 48 5 nL (L.flatMap OpS.cells) :: pts xb (.cells (codeCells bs pc (.slice a1 nb c1) (.slice a2 np c2) (.slice a3 nr c3)).toArray 27 (0, 0)) :: base w :: [])) (fun _ i _ => nL - (Go.RowKit.intOf i).toNat)
    case atStart => exact ⟨0, [], _, rfl, by omega, rfl, by simp, H7⟩
    case round =>
      clear H7
      obtain ⟨k, M, v, rfl, hk, rfl, hM, HX⟩ := hrel
      by_cases hlt : k < nL
      · obtain ⟨o', ho⟩ : ∃ o', L[k]? = some o' := ⟨_, List.getElem?_eq_getElem (by rw [HNL.out]; exact hlt)⟩
        have hom := List.mem_of_getElem? ho
        obtain ⟨oad, oc, hod⟩ := (((HBX.out (base w :: []) (fun _ h => h) o' hom).2.rd) wr HX.drop.drop.drop.drop).shape
        have HRW : Hid (∀ w' Y1 Y2 X, Holds E w' (Y1 :: Y2 :: row (.slice aa nL ca) 48 5 nL (L.flatMap OpS.cells) :: X) → Reads w' (.slice aa nL ca) 5 nL (L.flatMap OpS.cells)) := Lib.hid fun w' Y1 Y2 X h => row.reads h.drop.drop
        obtain ⟨g2, of', rfl, h1⟩ := (HRW.out _ _ _ _ HX).at (by omega)
        have HCL : Hid (∀ w' Y1 Y2 X, Holds E w' (Y1 :: Y2 :: row (.slice (some ⟨g2, of', none⟩) nL ca) 48 5 nL (L.flatMap OpS.cells) :: X) → ∀ j, j < 5 → w'.cell? ⟨g2, of' + (k * 5 + j), none⟩ = o'.cells[j]?) := Lib.hid fun w' Y1 Y2 X h j hj => by
          obtain ⟨g3, o3, hg, h2⟩ := (HRW.out _ _ _ _ h).at (by omega)
          cases hg
          have h3 := cells_at ho j hj
          obtain ⟨u, hu⟩ : ∃ u, o'.cells[j]? = some u := ⟨_, List.getElem?_eq_getElem (by simp [OpS.cells]; omega)⟩
          rw [hu] at h3 ⊢
          exact h2 _ _ h3
        have CD1 := Lib.hid fun w' blk M X hX h => CD.out w' m M blk o' X hom hX h
        have CR1 := Lib.hid fun w' M v X hX h1 h2 h => CRD.out w' M v o' X hom hX h1 h2 h
        have HST := Lib.hid fun M p => opP_strip M o' p
        have HLE := Lib.hid fun M p => opP_len M o' p
        obtain ⟨kind, perm, n, a, d, ds⟩ := o'
        dsimp only at hod
        generalize ds.length = lds at hod
        subst hod
        unfold OpS.val opVal at CR1
        unfold OpS.cells at CD1 HCL
        dsimp only at CD1 CR1 HCL
        have c0 := HCL.out _ _ _ _ HX 0 (by omega)
        have c1' := HCL.out _ _ _ _ HX 1 (by omega)
        have c2' := HCL.out _ _ _ _ HX 2 (by omega)
        have c3' := HCL.out _ _ _ _ HX 3 (by omega)
        have c4 := HCL.out _ _ _ _ HX 4 (by omega)
        simp only [← Nat.add_assoc, Nat.add_zero] at c0 c1' c2' c3' c4
        have hkI : (k : Int) < (nL : Int) := by omega
        have hO := mod_ok HX.swap
        clear h1 hom ho
        go_wp2_with fail
        refine (CD1.out _ _ _ _ (fun _ g' => g'.drop.drop.drop) ((HX.alloc (.cells #[.int .i64 kind, .int .i64 perm, .int .i64 n, .int .u64 a, .slice oad lds oc] 48)).re 3 [0, 2, 1])).mono ?_
        rintro en w8 ⟨⟨vx, px⟩, rfl, H8⟩
        dsimp only at H8
        clear c0 c1' c2' c3' c4 HX
        have c0 := HCL.out _ _ _ _ H8 0 (by omega)
        have c1' := HCL.out _ _ _ _ H8 1 (by omega)
        have c2' := HCL.out _ _ _ _ H8 2 (by omega)
        have c3' := HCL.out _ _ _ _ H8 3 (by omega)
        have c4 := HCL.out _ _ _ _ H8 4 (by omega)
        simp only [← Nat.add_assoc, Nat.add_zero] at c0 c1' c2' c3' c4
        go_wp2_with fail
        refine (CR1.out _ _ _ _ (fun _ g' => g'.drop.drop.drop) hO (by omega) H8.swap).mono ?_
        rintro en w9 ⟨v9, rfl, H9⟩
        rw [← HST.out M px] at H9
        have hl9 := HLE.out M px
        have H10 := Lib.hid H9
        clear c0 c1' c2' c3' c4 H8 H9 hO
        unfold ansVal
        go_wp2_with fail
        go_roundw
        case rel => exact ⟨k + 1, _, v9, rfl, by omega, by go_num, by omega, H10.out⟩
        case measure => simp [Go.RowKit.intOf]; omega
      · obtain rfl : nL = k := by omega
        have hkI : ¬ (nL : Int) < (nL : Int) := by omega
        clear CD CRD HBX
        obtain ⟨r, pc0, dn0, hd0⟩ := C0
        obtain ⟨s0, s1, s2, s3, hs4⟩ := list4 HC0.out.1.len
        dsimp only at hs4
        subst hs4
        have hMl : M.length ≤ 1000 := by omega
        have HA : Holds E wr (pts xb (.cells (codeCells bs pc (.slice a1 nb c1) (.slice a2 np c2) (.slice a3 nr c3)).toArray 27 (0, 0)) :: refH v (stripM M) :: modH m M :: base w :: []) := HX.re 5 [3, 0, 1, 4]
        have hxa := HX0.out _ _ HA
        unfold refCV at CB
        rw [cpS_cells rfl] at CB
        dsimp only at CB
        clear HX HNL hM hk hLl
        go_wp2_with fail
        refine (CW.out _ _ (fun _ g' => g'.drop.drop.drop) HA).mono ?_
        rintro en w10 ⟨c, rfl, H10⟩
        have hxb := HX0.out _ _ H10.drop
        clear HA hxa CW
        go_wp2_with fail
        refine (CB.out _ _ (fun _ g' => g'.drop.drop.drop.drop) H10).mono ?_
        rintro en w11 ⟨rfl, H11⟩
        clear H10 hxb
        obtain ⟨wb, hwb⟩ : ∃ wb, w11.heap.size = wb := ⟨_, rfl⟩
        have H12 := H11.alloc (.cells #[.int .u64 s0, .int .u64 s1, .int .u64 s2, .int .u64 s3, .int .u64 pc0, .int .i64 dn0, .bool hd0] 55)
        rw [hwb] at H12
        have H13 : Holds E _ (cpH c ⟨[s0, s1, s2, s3], pc0, dn0, hd0⟩ :: refC wb ⟨[s0, s1, s2, s3], pc0, dn0, hd0⟩ :: refH v (stripM M) :: modH m M :: pts xb (.cells (codeCells bs pc (.slice a1 nb c1) (.slice a2 np c2) (.slice a3 nr c3)).toArray 27 (0, 0)) :: base w :: []) := H12.re 6 [1, 0, 3, 4, 2, 5]
        have CSN := Lib.hid fun w' C X (h : Holds E w' (cpH c C :: X)) => cpuStepNil h
        have CSM := Lib.hid fun w' b (C : CpS) X (hl : C.r.length = 4) (h : Holds E w' (cpH b C :: X)) => lawSame hl h
        have CCP := Lib.hid fun w' C X (hl : C.r.length = 4) (h : Holds E w' (cpH c C :: X)) => cpuCopy hl h
        have CF := Lib.hid fun w' => cpuFlat (w := w') (m := m)
        unfold coreV memV at CF
        unfold refCV at CSM
        clear H11 H12
        go_wp2_with fail
        refine (CSN.out _ _ _ H13).mono ?_
        rintro en w12 ⟨rfl, H14⟩
        have hw14 : ∀ j, w12.cell? ⟨wb, j, none⟩ = (#[.int .u64 s0, .int .u64 s1, .int .u64 s2, .int .u64 s3, .int .u64 pc0, .int .i64 dn0, .bool hd0] : Array Value)[j]? := Holds.cells H14.swap
        clear H13
        go_wp2_with fail
        refine (CSM.out _ _ ⟨[s0, s1, s2, s3], pc0, dn0, hd0⟩ _ rfl H14).mono ?_
        rintro en w13 ⟨rfl, H15⟩
        clear H14 hw14 CSN
        go_wp2_with fail
        refine (CCP.out _ _ _ rfl H15).mono ?_
        rintro en w14 ⟨cw, rfl, H16⟩
        have H17 : Holds E w14 (cpH c ⟨[s0, s1, s2, s3], pc0, dn0, hd0⟩ :: refC wb ⟨[s0, s1, s2, s3], pc0, dn0, hd0⟩ :: refH v (stripM M) :: modH m M :: cpH cw ⟨[s0, s1, s2, s3], pc0, dn0, hd0⟩ :: pts xb (.cells (codeCells bs pc (.slice a1 nb c1) (.slice a2 np c2) (.slice a3 nr c3)).toArray 27 (0, 0)) :: base w :: []) := H16.re 7 [1, 2, 3, 4, 0, 5, 6]
        clear H15 H16 CCP
        go_wp2_with fail
        go_loopw [9, 15, 16, 17, 18, 19] (fun l i _ _ _ _ wr => ∃ (k : Nat) (C : CpS) (M : List Pg) (v : Value), v = l ∧ k ≤ nn ∧ i = .int .i64 (k : Nat) ∧ Hid (CpOk C) ∧ C.done ≤ k ∧ M.length ≤ 1000 ∧ Holds E wr (cpH c C :: refC wb C :: refH v (stripM M) :: modH m M :: cpH cw ⟨[s0, s1, s2, s3], pc0, dn0, hd0⟩ :: pts xb (.cells (codeCells bs pc (.slice a1 nb c1) (.slice a2 np c2) (.slice a3 nr c3)).toArray 27 (0, 0)) :: base w :: [])) (fun _ i _ _ _ _ _ => nn - (Go.RowKit.intOf i).toNat)
        case atStart => exact ⟨0, _, M, v, rfl, by omega, rfl, Lib.hid HC0.out.1, by have := HC0.out.2; dsimp only at this ⊢; omega, hMl, H17⟩
        case round =>
          clear H17 hMl
          obtain ⟨k, C, M, v, rfl, hk, rfl, hC, hdn, hMl, HX⟩ := hrel
          obtain ⟨r, pc1, dn1, hd1⟩ := C
          obtain ⟨t0, t1, t2, t3, ht4⟩ := list4 hC.out.len
          dsimp only at ht4 hdn
          subst ht4
          by_cases hlt2 : k < nn
          · have hkI2 : (k : Int) < (nn : Int) := by omega
            have hwr : ∀ j, wr.cell? ⟨wb, j, none⟩ = (#[.int .u64 t0, .int .u64 t1, .int .u64 t2, .int .u64 t3, .int .u64 pc1, .int .i64 dn1, .bool hd1] : Array Value)[j]? := Holds.cells HX.swap
            have hO := mod_ok HX.p3
            have CRS := Lib.hid (ref48Step hC.out hO.strip (by rw [strip_len]; omega) (by dsimp only; omega) (HX.re 7 [2, 0, 1, 3, 4, 5, 6]))
            have CST := Lib.hid fun w' X (h : Holds E w' (cpH c ⟨[t0, t1, t2, t3], pc1, dn1, hd1⟩ :: modH m M :: X)) => cpuStep hC.out (by dsimp only; omega) h
            rw [stepS_strip] at CRS
            have hok2 := stepS_ok (M := M) hC.out
            have hdn2 := stepS_done (M := M) (C := ⟨[t0, t1, t2, t3], pc1, dn1, hd1⟩)
            have hml2 := stepS_len M ⟨[t0, t1, t2, t3], pc1, dn1, hd1⟩
            obtain ⟨Y, hY⟩ : ∃ Y, stepS M ⟨[t0, t1, t2, t3], pc1, dn1, hd1⟩ = Y := ⟨_, rfl⟩
            rw [hY] at CRS CST hok2 hdn2 hml2
            obtain ⟨E2, C2, M2⟩ := Y
            dsimp only at CRS CST hok2 hdn2 hml2
            obtain ⟨r, pc2, dn2, hd2⟩ := C2
            obtain ⟨u0, u1, u2, u3, hu4⟩ := list4 hok2.len
            dsimp only at hu4 hdn2
            subst hu4
            have HOK2 := Lib.hid hok2
            unfold refCV at CRS
            rw [cpS_cells rfl, cpS_cells rfl] at CRS
            dsimp only at CRS
            unfold coreV memV at CST
            clear hY hok2 hO
            go_wp2_with fail
            refine CRS.out.mono ?_
            rintro en z1 ⟨v2, rfl, Z1⟩
            clear CRS HX hwr
            have hwb1 := Holds.lt (o := .cells (CpS.cells ⟨[t0, t1, t2, t3], pc1, dn1, hd1⟩).toArray 55 (0, 0)) (Z1.re 3 [2])
            have Z2 : Holds E z1 (refC wb ⟨[t0, t1, t2, t3], pc1, dn1, hd1⟩ :: refH v2 (stripM M2) :: cpH c ⟨[t0, t1, t2, t3], pc1, dn1, hd1⟩ :: modH m M :: cpH cw ⟨[s0, s1, s2, s3], pc0, dn0, hd0⟩ :: pts xb (.cells (codeCells bs pc (.slice a1 nb c1) (.slice a2 np c2) (.slice a3 nr c3)).toArray 27 (0, 0)) :: base w :: []) := Z1.re 7 [2, 0, 1, 3, 4, 5, 6]
            have hz2 : ∀ j, z1.cell? ⟨wb, j, none⟩ = (#[.int .u64 t0, .int .u64 t1, .int .u64 t2, .int .u64 t3, .int .u64 pc1, .int .i64 dn1, .bool hd1] : Array Value)[j]? := Holds.cells Z2
            have hzf : ∀ j, z1.frozen? ⟨wb, j, none⟩ = false := Holds.frozen (c := (CpS.cells ⟨[t0, t1, t2, t3], pc1, dn1, hd1⟩).toArray) (T := 55) Z2
            have Z3 := (refC.all (C' := ⟨[u0, u1, u2, u3], pc2, dn2, hd2⟩) rfl rfl Z2).alloc (.cells #[.int .u64 u0, .int .u64 u1, .int .u64 u2, .int .u64 u3, .int .u64 pc2, .int .i64 dn2, .bool hd2] 55)
            dsimp only at Z3
            have Z4 := Lib.hid Z3.drop
            clear Z1 Z2 Z3
            go_wp2_with fail
            refine calls_at Z4.out fun z4 Z5 => ?_
            refine (CF.out _).mono ?_
            rintro en z5 ⟨rfl, n5, rfl⟩
            clear hz2 hzf Z4 hwb1
            go_wp2_with fail
            refine (CST.out _ _ ((Z5.drewN n5).re 4 [2, 3, 0, 1])).mono ?_
            rintro en z6 ⟨rfl, Z6⟩
            have Z7 : Holds E z6 (cpH c ⟨[u0, u1, u2, u3], pc2, dn2, hd2⟩ :: refC wb ⟨[u0, u1, u2, u3], pc2, dn2, hd2⟩ :: refH v2 (stripM M2) :: modH m M2 :: cpH cw ⟨[s0, s1, s2, s3], pc0, dn0, hd0⟩ :: pts xb (.cells (codeCells bs pc (.slice a1 nb c1) (.slice a2 np c2) (.slice a3 nr c3)).toArray 27 (0, 0)) :: base w :: []) := Z6.re 7 [0, 2, 3, 1, 4, 5, 6]
            have hz7 : ∀ j, z6.cell? ⟨wb, j, none⟩ = (#[.int .u64 u0, .int .u64 u1, .int .u64 u2, .int .u64 u3, .int .u64 pc2, .int .i64 dn2, .bool hd2] : Array Value)[j]? := Holds.cells Z7.swap
            clear Z5 Z6 CST
            go_wp2_with fail
            refine (CSM.out _ _ ⟨[u0, u1, u2, u3], pc2, dn2, hd2⟩ _ rfl Z7).mono ?_
            rintro en z7 ⟨rfl, Z8⟩
            clear Z7 hz7
            by_cases hE : E2 = 0
            · have hEb : ((E2 : Int) != 0) = false := by simp [hE]
              clear hE
              go_wp2_with fail
              go_roundw
              case rel => exact ⟨k + 1, _, M2, v2, rfl, by omega, by go_num, HOK2, by dsimp only; omega, by omega, Z8⟩
              case measure => simp [Go.RowKit.intOf]; omega
            · have hEb : ((E2 : Int) != 0) = true := by simpa using hE
              by_cases h3 : 3 < k
              · have h3I : decide ((3 : Int) < (k : Int)) = true := decide_eq_true (by omega)
                have h3J : (3 : Int) < (k : Int) := by omega
                clear hE
                have hwt : ∀ j, (World.cell? _ ⟨wb, j, none⟩) = (#[.int .u64 u0, .int .u64 u1, .int .u64 u2, .int .u64 u3, .int .u64 pc2, .int .i64 dn2, .bool hd2] : Array Value)[j]? := Holds.cells (Z8).swap
                have hl1 := mod_len (mod_ok (Z8).p3)
                go_wp2_with fail
                refine (CSM.out _ _ ⟨[u0, u1, u2, u3], pc2, dn2, hd2⟩ _ rfl (Z8)).mono ?_
                rintro en y1 ⟨rfl, Y1⟩
                have hyx := HX0.out _ _ (Y1.re 6 [5])
                clear hwt
                go_wp2_with fail
                refine (CB.out _ _ (fun _ g' => g'.drop.drop.drop.drop.drop.drop) Y1).mono ?_
                rintro en y2 ⟨rfl, Y2⟩
                clear Y1 hyx
                go_wp2_with fail
                refine (CSM.out _ _ ⟨[s0, s1, s2, s3], pc0, dn0, hd0⟩ _ rfl (Y2.re 7 [4, 0, 1, 2, 3, 5, 6])).mono ?_
                rintro en y3 ⟨rfl, Y3⟩
                clear Y2
                go_wp2_with fail
                refine (modPages (Y3.re 7 [4, 0, 1, 2, 3, 5, 6])).mono ?_
                rintro en y4 ⟨⟨pv, pds⟩, rfl, Y4⟩
                dsimp only at Y4
                have hpd := Y4.purE
                have CPG : Hid (∀ w', Holds E w' (row pv 100 3 M2.length ((toldP M2 pds).flatMap PgV.cells) :: all toldH (toldP M2 pds) :: modH m M2 :: cpH cw ⟨[s0, s1, s2, s3], pc0, dn0, hd0⟩ :: cpH c ⟨[u0, u1, u2, u3], pc2, dn2, hd2⟩ :: refC wb ⟨[u0, u1, u2, u3], pc2, dn2, hd2⟩ :: refH v2 (stripM M2) :: pts xb (.cells (codeCells bs pc (.slice a1 nb c1) (.slice a2 np c2) (.slice a3 nr c3)).toArray 27 (0, 0)) :: base w :: []) → Calls Tryz.prog 22 #[pv, v2] w' (Ret E (.bool true) (base w :: []))) := Lib.hid fun w' h => by
                  have hO := mod_ok h.drop.drop
                  refine retC (ref38Pages (R := row pv 100 3 M2.length ((toldP M2 pds).flatMap PgV.cells) :: all toldH (toldP M2 pds) :: modH m M2 :: cpH cw ⟨[s0, s1, s2, s3], pc0, dn0, hd0⟩ :: cpH c ⟨[u0, u1, u2, u3], pc2, dn2, hd2⟩ :: refC wb ⟨[u0, u1, u2, u3], pc2, dn2, hd2⟩ :: refH v2 (stripM M2) :: pts xb (.cells (codeCells bs pc (.slice a1 nb c1) (.slice a2 np c2) (.slice a3 nr c3)).toArray 27 (0, 0)) :: base w :: []) (L := toldP M2 pds) (M := stripM M2) hO.strip ?_ pv v2 (by rw [strip_len]; omega) (fun w'' g => ?_) (fun w'' g => ?_) (fun q hq w'' g => told_read8 hq g.drop) h) fun _ g => g.re 9 [8]
                  · rw [toldP_key hpd]
                    unfold stripM
                    rw [List.map_map]
                    rfl
                  · rw [toldP_length hpd]; exact row.reads g
                  · exact refH.rd (g.re 7 [6])
                clear Y3
                go_wp2_with fail
                refine (CPG.out _ Y4.drop).mono ?_
                rintro en y5 ⟨rfl, Y5⟩
                clear Y4 CPG
                go_wp2_with fail
                refine (CLv.out _ _ Y5).mono ?_
                rintro en y6 ⟨rfl, Y6⟩
                go_wp2_with fail
                go_ret
                exact ⟨rfl, HBL.out _ _ Y6⟩
              · have h3I : decide ((3 : Int) < (k : Int)) = false := decide_eq_false (by omega)
                have h3J : ¬ (3 : Int) < (k : Int) := by omega
                clear hE
                go_wp2_with fail
                go_roundw
                case rel => exact ⟨k + 1, _, M2, v2, rfl, by omega, by go_num, HOK2, by dsimp only; omega, by omega, Z8⟩
                case measure => simp [Go.RowKit.intOf]; omega
          · obtain rfl : nn = k := by omega
            have hkI2 : ¬ (nn : Int) < (nn : Int) := by omega
            have hwt : ∀ j, (World.cell? _ ⟨wb, j, none⟩) = (#[.int .u64 t0, .int .u64 t1, .int .u64 t2, .int .u64 t3, .int .u64 pc1, .int .i64 dn1, .bool hd1] : Array Value)[j]? := Holds.cells (HX).swap
            have hl1 := mod_len (mod_ok (HX).p3)
            go_wp2_with fail
            refine (CSM.out _ _ ⟨[t0, t1, t2, t3], pc1, dn1, hd1⟩ _ rfl (HX)).mono ?_
            rintro en y1 ⟨rfl, Y1⟩
            have hyx := HX0.out _ _ (Y1.re 6 [5])
            clear hwt
            go_wp2_with fail
            refine (CB.out _ _ (fun _ g' => g'.drop.drop.drop.drop.drop.drop) Y1).mono ?_
            rintro en y2 ⟨rfl, Y2⟩
            clear Y1 hyx
            go_wp2_with fail
            refine (CSM.out _ _ ⟨[s0, s1, s2, s3], pc0, dn0, hd0⟩ _ rfl (Y2.re 7 [4, 0, 1, 2, 3, 5, 6])).mono ?_
            rintro en y3 ⟨rfl, Y3⟩
            clear Y2
            go_wp2_with fail
            refine (modPages (Y3.re 7 [4, 0, 1, 2, 3, 5, 6])).mono ?_
            rintro en y4 ⟨⟨pv, pds⟩, rfl, Y4⟩
            dsimp only at Y4
            have hpd := Y4.purE
            have CPG : Hid (∀ w', Holds E w' (row pv 100 3 M.length ((toldP M pds).flatMap PgV.cells) :: all toldH (toldP M pds) :: modH m M :: cpH cw ⟨[s0, s1, s2, s3], pc0, dn0, hd0⟩ :: cpH c ⟨[t0, t1, t2, t3], pc1, dn1, hd1⟩ :: refC wb ⟨[t0, t1, t2, t3], pc1, dn1, hd1⟩ :: refH v (stripM M) :: pts xb (.cells (codeCells bs pc (.slice a1 nb c1) (.slice a2 np c2) (.slice a3 nr c3)).toArray 27 (0, 0)) :: base w :: []) → Calls Tryz.prog 22 #[pv, v] w' (Ret E (.bool true) (base w :: []))) := Lib.hid fun w' h => by
              have hO := mod_ok h.drop.drop
              refine retC (ref38Pages (R := row pv 100 3 M.length ((toldP M pds).flatMap PgV.cells) :: all toldH (toldP M pds) :: modH m M :: cpH cw ⟨[s0, s1, s2, s3], pc0, dn0, hd0⟩ :: cpH c ⟨[t0, t1, t2, t3], pc1, dn1, hd1⟩ :: refC wb ⟨[t0, t1, t2, t3], pc1, dn1, hd1⟩ :: refH v (stripM M) :: pts xb (.cells (codeCells bs pc (.slice a1 nb c1) (.slice a2 np c2) (.slice a3 nr c3)).toArray 27 (0, 0)) :: base w :: []) (L := toldP M pds) (M := stripM M) hO.strip ?_ pv v (by rw [strip_len]; omega) (fun w'' g => ?_) (fun w'' g => ?_) (fun q hq w'' g => told_read8 hq g.drop) h) fun _ g => g.re 9 [8]
              · rw [toldP_key hpd]
                unfold stripM
                rw [List.map_map]
                rfl
              · rw [toldP_length hpd]; exact row.reads g
              · exact refH.rd (g.re 7 [6])
            clear Y3
            go_wp2_with fail
            refine (CPG.out _ Y4.drop).mono ?_
            rintro en y5 ⟨rfl, Y5⟩
            clear Y4 CPG
            go_wp2_with fail
            refine (CLv.out _ _ Y5).mono ?_
            rintro en y6 ⟨rfl, Y6⟩
            go_wp2_with fail
            go_ret
            exact ⟨rfl, HBL.out _ _ Y6⟩
  · have HF : Hid (∀ w' X, Holds E w' (X :: base w :: []) → Below w.heap.size w w') := Lib.hid fun w' X h => HBL.out _ _ h.drop
    clear HBL hgg
    go_wp2_with fail
    refine (CLv.out _ _ H4).mono ?_
    rintro en w1 ⟨rfl, H5⟩
    go_wp2_with fail
    go_ret
    exact ⟨rfl, HF.out _ _ H5⟩
end
end Go.Proofs.YtjbphdjheklhbaaGreat

/-
  Layer 48, CpuSteps: the law's arguments.
-/
namespace Go.Proofs.YtjbphdjheklhbaaGreat
open Go.RowKit Go.ChangeShapes Go.WideShapes Go.ChangeAt

set_option maxRecDepth 100000 in
theorem steps_arg (W : World) (v0 v1 : Value) (a0 : Arg Tryz.prog W 27 v0) (a1 : Arg Tryz.prog W 5 v1) :
    Calls Tryz.prog 3 #[v0, v1] W (fun e w' => e = .returned (.bool true) ∧ Below W.heap.size W w') := by
  obtain ⟨bs, pc, B, P, ns, v1', v2, v3, rfl, _, hpc, hns, l1, l2, l3, r1, r2, r3, _⟩ := code_of a0
  obtain ⟨n, rfl, hw⟩ := a1.int (k := .u8) (by kernel_rfl)
  have hw := wf9_u8 hw
  obtain ⟨n, rfl⟩ : ∃ q : Nat, n = q := ⟨n.toNat, by omega⟩
  exact steps_walk bs pc hpc B P ns hns v1' v2 v3 n (by omega) l1 l2 l3 W r1 r2 r3
end Go.Proofs.YtjbphdjheklhbaaGreat
