/-
  Layer 48, CpuRuns: the walk.
-/
import Derived.Test.YtjbphdjheklhbaaCr7
import Derived.Test.YtjbphdjheklhbaaEqa
namespace Go.Proofs.Ytjbphdjheklhbaa
open Go.RowKit

/-- A run that has ended. -/
theorem runF_end {k : Nat} {M : List Pg} {C : CpS} (h : k = 0 ∨ C.halted = true) : runF k M C = (0, 0, C, M) := by
  cases k with
  | zero => rfl
  | succ k =>
    rcases h with h | h
    · cases h
    · unfold runF; rw [if_pos h]
theorem runF_err {k : Nat} {M : List Pg} {C : CpS} (h : C.halted = false) (he : (stepS M C).1 ≠ 0) : runF (k + 1) M C = (0, (stepS M C).1, C, M) := by
  conv => lhs; unfold runF
  rw [if_neg (by rw [h]; decide), if_pos he]
theorem runF_on {k : Nat} {M : List Pg} {C : CpS} (h : C.halted = false) (he : (stepS M C).1 = 0) : runF (k + 1) M C = ((runF k (stepS M C).2.2 (stepS M C).2.1).1 + 1, (runF k (stepS M C).2.2 (stepS M C).2.1).2.1, (runF k (stepS M C).2.2 (stepS M C).2.1).2.2.1, (runF k (stepS M C).2.2 (stepS M C).2.1).2.2.2) := by
  conv => lhs; unfold runF
  rw [if_neg (by rw [h]; decide), if_neg (fun h => h he)]

/-- How the run by steps stands: i steps were done, k are left; f is the error. -/
def RunAt (T : Nat × Nat × CpS × List Pg) (i k f : Nat) (M : List Pg) (C : CpS) : Prop :=
  CpOk C ∧ C.done ≤ i ∧ ((f = 0 ∧ T = ((runF k M C).1 + i, (runF k M C).2.1, (runF k M C).2.2.1, (runF k M C).2.2.2)) ∨ (f ≠ 0 ∧ T = (i, f, C, M)))
theorem RunAt.end {T : Nat × Nat × CpS × List Pg} {i k f : Nat} {M : List Pg} {C : CpS} (h : RunAt T i k f M C) (he : k = 0 ∨ C.halted = true ∨ f ≠ 0) : T = (i, f, C, M) := by
  obtain ⟨_, _, ⟨rfl, h2⟩ | ⟨_, h2⟩⟩ := h
  · rw [h2, runF_end (by rcases he with h | h | h; exact .inl h; exact .inr h; exact absurd rfl h)]
    simp
  · exact h2
theorem RunAt.go {T : Nat × Nat × CpS × List Pg} {i k : Nat} {M : List Pg} {C : CpS} (h : RunAt T i (k + 1) 0 M C) (hh : C.halted = false) :
    ((stepS M C).1 = 0 → RunAt T (i + 1) k 0 (stepS M C).2.2 (stepS M C).2.1) ∧ ((stepS M C).1 ≠ 0 → (stepS M C).2 = (C, M) ∧ RunAt T i (k + 1) (stepS M C).1 M C) := by
  obtain ⟨h0, hd, ⟨_, h2⟩ | ⟨h2, _⟩⟩ := h
  · refine ⟨fun he => ⟨stepS_ok h0, by have := stepS_done (M := M) (C := C); omega, .inl ⟨rfl, ?_⟩⟩, fun he => ⟨stepS_err he, h0, hd, .inr ⟨he, ?_⟩⟩⟩
    · rw [h2, runF_on hh he]
      simp only [Prod.mk.injEq, and_true]
      omega
    · rw [h2, runF_err hh he]
      simp
  · exact absurd rfl h2
theorem told_read {e : Env} {w : World} {R : List HP} {L : List PgV} {q : PgV} (hq : q ∈ L) (H : Holds e w (all toldH L :: R)) : RdB w q.d q.bs := by
  obtain ⟨i, hi⟩ := List.mem_iff_getElem?.1 hq
  have h := Holds.focus hi H
  exact bts.reads (v := q.d) (l := q.bs) h
set_option maxRecDepth 100000 in
theorem same_pages {e : Env} {w : World} {R : List HP} {M M' : List Pg} (hs : stripM M = stripM M') {ds ds' : List Value} (h1 : ds.length = M.length) (h2 : ds'.length = M'.length) (hl : M.length ≤ 68719476736) {v1 v2 : Value}
    (H : Holds e w (row v1 137 3 M.length ((toldP M ds).flatMap PgV.cells) :: all toldH (toldP M ds) :: row v2 137 3 M'.length ((toldP M' ds').flatMap PgV.cells) :: all toldH (toldP M' ds') :: R)) :
    Calls Try.prog 42 #[v1, v2] w (Ret e (.bool true) R) := by
  have l1 := toldP_length h1
  have l2 := toldP_length h2
  refine retC (ref38Same (alike_key hs h1 h2) v1 v2 (by omega) (fun w' g => ?_) (fun w' g => ?_) (fun q hq w' g => told_read hq g.drop) (fun q hq w' g => told_read hq g.drop.drop.drop) H) fun w' g => g.drop.drop.drop.drop
  · rw [l1]; exact row.reads g
  · rw [l2]; exact row.reads g.drop.drop
section
set_option maxRecDepth 100000 in
set_option maxHeartbeats 4000000 in
theorem runs_walk (bs pc : Nat) (hpc : pc < 18446744073709551616) (B : List UInt8) (P : List Int) (ns : List Nat) (hns : ∀ x ∈ ns, x < 18446744073709551616) (v1 v2 v3 : Value) (most : Int) (hm0 : -9223372036854775808 ≤ most) (hm1 : most ≤ 9223372036854775807)
    (hBl : B.length ≤ 4611686018427387904) (hPl : P.length ≤ 4611686018427387904) (hnl : ns.length ≤ 4611686018427387904) (w : World) (hr1 : RdB w v1 B) (hr2 : Reads w v2 1 P.length (ints P)) (hr3 : Reads w v3 1 ns.length (u64v ns)) :
    Calls Try.prog 7 #[.agg #[.int .u64 bs, .int .u64 pc, v1, v2, v3], .int .i64 most] w (fun e w' => e = .returned (.bool true) ∧ Below w.heap.size w w') := by
  have H0 := Holds.start w
  generalize hE : (⟨w.os, w.output, w.tape⟩ : Env) = E at *
  have hbel : ∀ w' A, Holds E w' (base w :: A) → Below w.heap.size w w' := fun w' A h => by subst hE; exact h.below rfl rfl rfl
  have HBL := Lib.hid hbel
  clear hE hbel
  have CLv := Lib.hid fun w' X (h : Holds E w' X) => lives48 h
  have HR1 : Hid (∀ w' X, Holds E w' (base w :: X) → RdB w' v1 B) := Lib.hid fun w' X h => Reads.based hr1 h
  have HR2 : Hid (∀ w' X, Holds E w' (base w :: X) → Reads w' v2 1 P.length (ints P)) := Lib.hid fun w' X h => Reads.based hr2 h
  have HR3 : Hid (∀ w' X, Holds E w' (base w :: X) → Reads w' v3 1 ns.length (u64v ns)) := Lib.hid fun w' X h => Reads.based hr3 h
  obtain ⟨a1, c1, rfl⟩ := hr1.shape
  obtain ⟨a2, c2, rfl⟩ := hr2.shape
  obtain ⟨a3, c3, rfl⟩ := hr3.shape
  obtain ⟨g, o, hA1, hcap⟩ : ∃ g o, (B.length ≠ 0 → a1 = some ⟨g, o, none⟩) ∧ B.length ≤ c1 := by
    have hc : B.length ≤ c1 := by
      rcases hr1.2 with ⟨h, h0⟩ | ⟨a, c, h, hc, _⟩
      · omega
      · cases h; exact hc
    by_cases h0 : B.length = 0
    · exact ⟨0, 0, fun h => absurd h0 h, hc⟩
    · obtain ⟨g, o, h, _⟩ := Reads.at hr1 (by omega)
      exact ⟨g, o, fun _ => h, hc⟩
  obtain ⟨nb, hnb⟩ : ∃ nb, B.length = nb := ⟨_, rfl⟩
  obtain ⟨np, hnp⟩ : ∃ np, P.length = np := ⟨_, rfl⟩
  obtain ⟨nr, hnr⟩ : ∃ nr, ns.length = nr := ⟨_, rfl⟩
  obtain ⟨xb, hxb⟩ : ∃ xb, w.heap.size = xb := ⟨_, rfl⟩
  have H1 := H0.alloc (.cells (codeCells bs pc (.slice a1 B.length c1) (.slice a2 P.length c2) (.slice a3 ns.length c3)).toArray 83)
  rw [hxb] at H1
  have CG := Lib.hid fun w' X (h : Holds E w' X) => lawGreat bs pc nb np nr a1 a2 a3 c1 c2 c3 (hnb ▸ hBl) (hnp ▸ hPl) (hnr ▸ hnl) h
  rw [hnb, hnp, hnr] at H1 ⊢
  have HX0 : Hid (∀ w' X, Holds E w' (pts xb (.cells (codeCells bs pc (.slice a1 nb c1) (.slice a2 np c2) (.slice a3 nr c3)).toArray 83 (0, 0)) :: X) → ∀ j, w'.cell? ⟨xb, j, none⟩ = (#[.int .u64 bs, .int .u64 pc, .slice a1 nb c1, .slice a2 np c2, .slice a3 nr c3] : Array Value)[j]?) := Lib.hid fun w' X h' => h'.cells
  have hx1 := HX0.out _ _ H1
  unfold codeCells at CG
  clear hr1 hr2 hr3 H0
  by_cases hbig : greatC nb np nr = true ∨ 300 < most
  · obtain ⟨gg, hgg⟩ : ∃ gg, greatC nb np nr = gg := ⟨_, rfl⟩
    rw [hgg] at CG hbig
    have HF : Hid (∀ w' X, Holds E w' (X :: base w :: []) → Below w.heap.size w w') := Lib.hid fun w' X h => HBL.out _ _ h.drop
    clear HBL hgg
    rw [hxb] at *
    cases gg
    · have hm : 300 < most := by simpa using hbig
      have hmd : decide ((300 : Int) < most) = true := decide_eq_true hm
      go_enter Try.func7, Try.ntmps7
      go_wp2_with fail
      refine (CG.out _ _ H1).mono ?_
      rintro en w1 ⟨rfl, H2⟩
      go_wp2_with fail
      refine (CLv.out _ _ H2).mono ?_
      rintro en w1 ⟨rfl, H3⟩
      go_wp2_with fail
      go_ret
      exact ⟨rfl, HF.out _ _ H3⟩
    · go_enter Try.func7, Try.ntmps7
      go_wp2_with fail
      refine (CG.out _ _ H1).mono ?_
      rintro en w1 ⟨rfl, H2⟩
      go_wp2_with fail
      refine (CLv.out _ _ H2).mono ?_
      rintro en w1 ⟨rfl, H3⟩
      go_wp2_with fail
      go_ret
      exact ⟨rfl, HF.out _ _ H3⟩
  · have hng : greatC nb np nr = false := by simpa using fun h => hbig (.inl h)
    have hm3 : most ≤ 300 := by omega
    have hmd : decide ((300 : Int) < most) = false := decide_eq_false (by omega)
    rw [hng] at CG
    have hsm : nb ≤ 900 ∧ np ≤ 6 := by unfold greatC at hng; simp at hng; omega
    obtain ⟨L, hL⟩ : ∃ L, laid bs g o c1 B P = L := ⟨_, rfl⟩
    have hLl : L.length ≤ 1000 := hL ▸ laid_len bs g o c1 B P (by omega) (by omega)
    have HBX : Hid (∀ X : List HP, (∀ w', Holds E w' X → Holds E w' (base w :: [])) → ∀ o' ∈ L, o'.wr ∧ OpOk E X o') := Lib.hid fun X hX o' ho => by
      rw [← hL] at ho
      exact laid_ok (by omega) hA1 (fun w' h => HR1.out w' [] (hX w' h)) o' ho
    have CN := Lib.hid fun w' X (h : Holds E w' X) => modNew h
    have CO : Hid (∀ w' X, (∀ w'', Holds E w'' X → Holds E w'' (base w :: [])) → Holds E w' X → Calls Try.prog 33 #[.agg #[.int .u64 bs, .int .u64 pc, .slice a1 nb c1, .slice a2 np c2, .slice a3 nr c3]] w'
        (RetEx E (fun v : Value => v) (fun v => row v 30 5 L.length (L.flatMap OpS.cells) :: X))) := Lib.hid fun w' X hX h => by
      have := lawOps bs pc B P (by omega) (by omega) g o c2 a1 a2 a3 c1 c3 nr hcap hA1 (fun w'' g' => HR2.out w'' [] (hX w'' g')) h
      rw [hL, hnb, hnp] at this
      exact this
    have CD : Hid (∀ w' m v X, (∀ w'', Holds E w'' X → Holds E w'' (base w :: [])) → Holds E w' (row v 30 5 L.length (L.flatMap OpS.cells) :: modH m [] :: X) → Calls Try.prog 10 #[.pointer (some ⟨m, 0, none⟩), v] w'
        (RetEx E (fun x : Value × List (Nat × Nat) => x.1) (fun x => pur (x.2.length = L.length) :: modH m (runP [] L x.2) :: X))) := Lib.hid fun w' m v X hX h => by
      refine (modDoes L hLl v (fun w'' g' => row.reads g') (fun o' ho => (HBX.out (row v 30 5 L.length (L.flatMap OpS.cells) :: X) (fun w'' g' => hX w'' g'.drop) o' ho).1) (fun o' ho => (HBX.out (row v 30 5 L.length (L.flatMap OpS.cells) :: X) (fun w'' g' => hX w'' g'.drop) o' ho).2) h.swap).mono ?_
      rintro en w1 ⟨x, h1, h2⟩
      exact ⟨x, h1, h2.re 4 [0, 2]⟩
    have HAK : Hid (∀ ps qs : List (Nat × Nat), ps.length = L.length → qs.length = L.length → stripM (runP [] L ps) = stripM (runP [] L qs)) := Lib.hid fun ps qs hp hq => by
      rw [← hL] at hp hq ⊢
      exact layP_alike bs g o c1 B P hp hq
    obtain ⟨C0, hC0⟩ : ∃ C0 : CpS, (⟨begR ns, pc, 0, false⟩ : CpS) = C0 := ⟨_, rfl⟩
    have HC0 : Hid (CpOk C0 ∧ C0.done = 0) := Lib.hid (hC0 ▸ ⟨begR_ok hns hpc 0 false, rfl⟩)
    have CW : Hid (∀ w' X, (∀ w'', Holds E w'' X → Holds E w'' (base w :: [])) → Holds E w' X → Calls Try.prog 34 #[.int .u64 pc, .slice a3 nr c3] w' (RetEx E (fun b : Nat => .pointer (some ⟨b, 0, none⟩)) (fun b => cpH b C0 :: X))) := Lib.hid fun w' X hX h => by
      have := cpuNew pc ns (.slice a3 nr c3) (fun w'' g' => by rw [← hnr]; exact HR3.out w'' [] (hX w'' g')) h
      rw [hC0] at this
      exact this
    clear hbig hng HR1 HR2 hnb hnp hL hC0 HBX hA1 hcap
    go_enter Try.func7, Try.ntmps7
    go_wp2_with fail
    refine (CG.out _ _ H1).mono ?_
    rintro en w1 ⟨rfl, H2⟩
    clear CG H1 hx1
    go_wp2_with fail
    refine (CN.out _ _ H2).mono ?_
    rintro en w2 ⟨m, rfl, H3⟩
    clear H2
    go_wp2_with fail
    refine (CN.out _ _ H3).mono ?_
    rintro en w3 ⟨q, rfl, H4⟩
    have hx4 := HX0.out _ _ (H4.drop.drop)
    clear H3 CN
    go_wp2_with fail
    refine (CO.out _ _ (fun _ g' => g'.drop.drop.drop) H4).mono ?_
    rintro en w4 ⟨v4, rfl, H5⟩
    clear H4 hx4
    go_wp2_with fail
    refine (CD.out _ _ _ _ (fun _ g' => g'.drop.drop) (H5.re 4 [0, 2, 1, 3])).mono ?_
    rintro en w5 ⟨⟨x5, ps⟩, rfl, H6⟩
    dsimp only at H6
    have hps := Lib.hid H6.purE
    have H7 := H6.drop
    have hx7 := HX0.out _ _ (H7.drop.drop)
    clear H5 H6
    go_wp2_with fail
    refine (CO.out _ _ (fun _ g' => g'.drop.drop.drop) H7).mono ?_
    rintro en w6 ⟨v6, rfl, H8⟩
    clear H7 hx7
    go_wp2_with fail
    refine (CD.out _ _ _ _ (fun _ g' => g'.drop.drop) (H8.re 4 [0, 2, 1, 3])).mono ?_
    rintro en w7 ⟨⟨x7, qs⟩, rfl, H9⟩
    dsimp only at H9
    have HAL0 := Lib.hid (HAK.out ps qs hps.out H9.purE)
    have H10 : Holds E w7 (pts xb (.cells (codeCells bs pc (.slice a1 nb c1) (.slice a2 np c2) (.slice a3 nr c3)).toArray 83 (0, 0)) :: modH q (runP [] L qs) :: modH m (runP [] L ps) :: base w :: []) := H9.re 4 [3, 1, 2]
    generalize runP [] L ps = Mm at *
    generalize runP [] L qs = Mq at *
    clear H8 H9 CO CD HAK hps
    have CW1 : Hid (∀ w', Holds E w' (pts xb (.cells (codeCells bs pc (.slice a1 nb c1) (.slice a2 np c2) (.slice a3 nr c3)).toArray 83 (0, 0)) :: modH q Mq :: modH m Mm :: base w :: []) → Calls Try.prog 34 #[.int .u64 pc, .slice a3 nr c3] w' (RetEx E (fun b : Nat => .pointer (some ⟨b, 0, none⟩)) (fun b => pts xb (.cells (codeCells bs pc (.slice a1 nb c1) (.slice a2 np c2) (.slice a3 nr c3)).toArray 83 (0, 0)) :: cpH b C0 :: modH q Mq :: modH m Mm :: base w :: []))) := Lib.hid fun w' h =>
      (CW.out w' _ (fun _ g' => g'.drop.drop.drop) h).mono fun en w'' ⟨b, h1, h2⟩ => ⟨b, h1, h2.swap⟩
    have CW2 : Hid (∀ w' b, Holds E w' (pts xb (.cells (codeCells bs pc (.slice a1 nb c1) (.slice a2 np c2) (.slice a3 nr c3)).toArray 83 (0, 0)) :: cpH b C0 :: modH q Mq :: modH m Mm :: base w :: []) → Calls Try.prog 34 #[.int .u64 pc, .slice a3 nr c3] w' (RetEx E (fun b : Nat => .pointer (some ⟨b, 0, none⟩)) (fun b' => pts xb (.cells (codeCells bs pc (.slice a1 nb c1) (.slice a2 np c2) (.slice a3 nr c3)).toArray 83 (0, 0)) :: cpH b' C0 :: cpH b C0 :: modH q Mq :: modH m Mm :: base w :: []))) := Lib.hid fun w' b h =>
      (CW.out w' _ (fun _ g' => g'.drop.drop.drop.drop) h).mono fun en w'' ⟨b', h1, h2⟩ => ⟨b', h1, h2.swap⟩
    clear CW
    have hd := H10.drew
    go_wp2_with fail
    go_region_held3 (fun w' => ∀ j, w'.cell? ⟨xb, j, none⟩ = (#[.int .u64 bs, .int .u64 pc, .slice a1 nb c1, .slice a2 np c2, .slice a3 nr c3] : Array Value)[j]?)
      (first | exact HX0.out _ _ (by assumption))
      (first
        | (go_at_call 34; refine (CW2.out _ _ (by assumption)).mono ?_; rintro e w8 ⟨b2, rfl, HN8⟩)
        | (go_at_call 34; refine (CW1.out _ (by assumption)).mono ?_; rintro e w9 ⟨b1, rfl, HN9⟩))
    · obtain ⟨c, hc⟩ : ∃ c, b1 = c := ⟨_, rfl⟩
      obtain ⟨d, hd⟩ : ∃ d, b2 = d := ⟨_, rfl⟩
      have HZ : Holds E w8 (cpH c C0 :: modH m Mm :: cpH d C0 :: modH q Mq :: base w :: []) := by
        rw [← hc, ← hd]
        first | exact HN8.re 6 [1, 4, 2, 3, 5] | exact HN8.re 6 [2, 4, 1, 3, 5]
      rw [hc, hd]
      clear HN8 HN9 CW1 CW2 hd H10 HX0 hc
      obtain ⟨T2, hT2⟩ : ∃ T2, runF most.toNat Mq C0 = T2 := ⟨_, rfl⟩
      obtain ⟨n0, e0, Cc, Mc, hT1⟩ : ∃ n0 e0 Cc Mc, runF most.toNat Mm C0 = (n0, e0, Cc, Mc) := ⟨_, _, _, _, rfl⟩
      have HAL : Hid (n0 = T2.1 ∧ e0 = T2.2.1 ∧ Cc = T2.2.2.1 ∧ stripM Mc = stripM T2.2.2.2) := Lib.hid (by
        have h := run_alike most.toNat HAL0.out C0
        rw [hT1, hT2] at h
        exact h)
      have CF := Lib.hid fun w' m => cpuFlat (w := w') (m := m)
      have CR : Hid (∀ w' X, Holds E w' (cpH c C0 :: modH m Mm :: X) → Calls Try.prog 35 #[.pointer (some ⟨c, 0, none⟩), coreV m, .int .i64 most] w' (Ret E (.tuple #[.int .i64 n0, .int .i64 e0]) (cpH c Cc :: modH m Mc :: X))) := Lib.hid fun w' X h => by
        have h1 := cpuRun HC0.out.1 most hm0 (by omega) (by rw [HC0.out.2]; omega) h
        rw [hT1] at h1
        exact h1
      have HT0 : Hid (RunAt T2 0 most.toNat 0 Mq C0) := Lib.hid ⟨HC0.out.1, by rw [HC0.out.2]; exact Nat.le_refl _, .inl ⟨rfl, by rw [hT2]; rfl⟩⟩
      have CS : Hid (∀ w' C' M' X, CpOk C' → C'.done ≤ 300 → Holds E w' (cpH d C' :: modH q M' :: X) → Calls Try.prog 38 #[.pointer (some ⟨d, 0, none⟩), coreV q] w' (Ret E (.int .i64 (stepS M' C').1) (cpH d (stepS M' C').2.1 :: modH q (stepS M' C').2.2 :: X))) := Lib.hid fun w' C' M' X h1 h2 h => cpuStep h1 (by omega) h
      unfold coreV memV at CF CR CS
      clear hT1 hT2 HC0 HAL0
      go_wp2_with fail
      refine (CF.out _ _).mono ?_
      rintro en y1 ⟨rfl, n1, rfl⟩
      go_wp2_with fail
      refine (CR.out _ _ (HZ.drewN n1)).mono ?_
      rintro en y2 ⟨rfl, Y2⟩
      have Y3 : Holds E y2 (cpH d C0 :: modH q Mq :: cpH c Cc :: modH m Mc :: base w :: []) := Y2.re 5 [2, 3, 0, 1, 4]
      clear Y2 HZ CR
      go_wp2_with fail
      go_loopw [11, 12] (fun kv fv wr => ∃ (i k f : Nat) (C' : CpS) (M' : List Pg), kv = .int .i64 (i : Nat) ∧ fv = .int .i64 (f : Nat) ∧ i ≤ 300 ∧ most.toNat = i + k ∧ Hid (RunAt T2 i k f M' C') ∧ Holds E wr (cpH d C' :: modH q M' :: cpH c Cc :: modH m Mc :: base w :: [])) (fun kv fv _ => (most.toNat - (Go.RowKit.intOf kv).toNat) * 2 + (if Go.RowKit.intOf fv = 0 then 1 else 0))
      case atStart => exact ⟨0, most.toNat, 0, C0, Mq, rfl, rfl, by omega, by omega, HT0, Y3⟩
      case round =>
        clear Y3 HT0
        obtain ⟨i, k, f, C', M', rfl, rfl, hi, hik, HT, HX⟩ := hrel
        by_cases hk0 : k = 0
        · have hlt : decide ((i : Int) < most) = false := decide_eq_false (by omega)
          have HA := HT.out.end (by first | exact .inl hk0 | exact .inr (.inl hhd) | exact .inr (.inr hf0))
          have hq := HAL.out
          rw [HA] at hq
          dsimp only at hq
          obtain ⟨q1, q2, q3, q4⟩ := hq
          have hl := HT.out.1.len
          subst q1 q2 q3
          have hml := mod_len (mod_open HX.p3).choose_spec.1
          have hml2 := mod_len (mod_open HX.swap).choose_spec.1
          obtain ⟨A, hA⟩ : ∃ A : List HP, cpH c Cc :: cpH d Cc :: modH m Mc :: modH q M' :: base w :: [] = A := ⟨_, rfl⟩
          have hA0 := hA
          have H0A : Holds E wr A := hA ▸ HX.re 5 [2, 0, 3, 1, 4]
          obtain ⟨rv, hrv⟩ : ∃ rv, Value.agg (u64v Cc.r).toArray = rv := ⟨_, rfl⟩
          have hre : ∀ w, (binOp .eql 95 rv rv).run Try.prog w = .ok (.bool true) w := fun w => by
            rw [← hrv, eqRegs _ _ hl hl, decide_eq_true rfl]
          have hgd : ∀ w x y, (eqGuard .eql 95 x y rv rv).run Try.prog w = .ok () w := fun w x y => by
            rw [← hrv]
            exact run_eqGuard_agg w .eql _ x y _ _ (by kernel_rfl)
          have R1 : Hid (∀ w', Holds E w' A → Calls Try.prog 39 #[.pointer (some ⟨c, 0, none⟩)] w' (Ret E rv A)) := Lib.hid fun w' h => by
            subst hA; rw [← hrv]; exact cpuRegs hl h
          have R2 : Hid (∀ w', Holds E w' A → Calls Try.prog 39 #[.pointer (some ⟨d, 0, none⟩)] w' (Ret E rv A)) := Lib.hid fun w' h => by
            subst hA; rw [← hrv]; exact retC (cpuRegs hl h.swap) fun _ g => g.swap
          obtain ⟨pcv, hpcv⟩ : ∃ pcv, Cc.pc = pcv := ⟨_, rfl⟩
          have R3 : Hid (∀ w', Holds E w' A → Calls Try.prog 40 #[.pointer (some ⟨c, 0, none⟩)] w' (Ret E (.int .u64 pcv) A)) := Lib.hid fun w' h => by
            subst hA; rw [← hpcv]; exact cpuPC hl h
          have R4 : Hid (∀ w', Holds E w' A → Calls Try.prog 40 #[.pointer (some ⟨d, 0, none⟩)] w' (Ret E (.int .u64 pcv) A)) := Lib.hid fun w' h => by
            subst hA; rw [← hpcv]; exact retC (cpuPC hl h.swap) fun _ g => g.swap
          obtain ⟨dnv, hdnv⟩ : ∃ dnv, Cc.done = dnv := ⟨_, rfl⟩
          have R5 : Hid (∀ w', Holds E w' A → Calls Try.prog 41 #[.pointer (some ⟨c, 0, none⟩)] w' (Ret E (.int .i64 dnv) A)) := Lib.hid fun w' h => by
            subst hA; rw [← hdnv]; exact cpuDone hl h
          have R6 : Hid (∀ w', Holds E w' A → Calls Try.prog 41 #[.pointer (some ⟨d, 0, none⟩)] w' (Ret E (.int .i64 dnv) A)) := Lib.hid fun w' h => by
            subst hA; rw [← hdnv]; exact retC (cpuDone hl h.swap) fun _ g => g.swap
          obtain ⟨hlv, hhlv⟩ : ∃ hlv, Cc.halted = hlv := ⟨_, rfl⟩
          have R7 : Hid (∀ w', Holds E w' A → Calls Try.prog 37 #[.pointer (some ⟨c, 0, none⟩)] w' (Ret E (.bool hlv) A)) := Lib.hid fun w' h => by
            subst hA; rw [← hhlv]; exact cpuHalted hl h
          have R8 : Hid (∀ w', Holds E w' A → Calls Try.prog 37 #[.pointer (some ⟨d, 0, none⟩)] w' (Ret E (.bool hlv) A)) := Lib.hid fun w' h => by
            subst hA; rw [← hhlv]; exact retC (cpuHalted hl h.swap) fun _ g => g.swap
          have R9 : Hid (∀ w', Holds E w' A → Calls Try.prog 43 #[.pointer (some ⟨m, 0, none⟩)] w' (RetEx E (fun x : Value × List Value => x.1) (fun x => pur (x.2.length = Mc.length) :: row x.1 137 3 Mc.length ((toldP Mc x.2).flatMap PgV.cells) :: all toldH (toldP Mc x.2) :: A))) := Lib.hid fun w' h => by
            subst hA
            refine (modPages (h.re 4 [2, 0, 1, 3])).mono ?_
            rintro en w'' ⟨x, h1, h2⟩
            exact ⟨x, h1, h2.re 7 [0, 1, 2, 4, 5, 3, 6]⟩
          have R10 : Hid (∀ w' (x : Value × List Value), Holds E w' (pur (x.2.length = Mc.length) :: row x.1 137 3 Mc.length ((toldP Mc x.2).flatMap PgV.cells) :: all toldH (toldP Mc x.2) :: A) → Calls Try.prog 43 #[.pointer (some ⟨q, 0, none⟩)] w' (RetEx E (fun y : Value × List Value => y.1) (fun y => pur (y.2.length = M'.length ∧ x.2.length = Mc.length) :: row x.1 137 3 Mc.length ((toldP Mc x.2).flatMap PgV.cells) :: all toldH (toldP Mc x.2) :: row y.1 137 3 M'.length ((toldP M' y.2).flatMap PgV.cells) :: all toldH (toldP M' y.2) :: A))) := Lib.hid fun w' x h => by
            have hx := h.purE
            subst hA
            refine (modPages (h.re 7 [6, 1, 2, 3, 4, 5])).mono ?_
            rintro en w'' ⟨y, h1, h2⟩
            exact ⟨y, h1, Holds.mkPur ⟨h2.purE, hx⟩ (h2.re 9 [4, 5, 1, 2, 6, 7, 8, 3])⟩
          have R11 : Hid (∀ w' (x y : Value × List Value), Holds E w' (pur (y.2.length = M'.length ∧ x.2.length = Mc.length) :: row x.1 137 3 Mc.length ((toldP Mc x.2).flatMap PgV.cells) :: all toldH (toldP Mc x.2) :: row y.1 137 3 M'.length ((toldP M' y.2).flatMap PgV.cells) :: all toldH (toldP M' y.2) :: A) → Calls Try.prog 42 #[x.1, y.1] w' (Ret E (.bool true) A)) := Lib.hid fun w' x y h => by
            have hx := h.purE
            exact same_pages q4 hx.2 hx.1 hml h.drop
          have RE : Hid (∀ w', Holds E w' A → Below w.heap.size w w') := Lib.hid fun w' h => by
            subst hA
            exact HBL.out _ _ h.drop.drop.drop.drop
          clear HA HT HAL hl hml hml2 hrv hpcv hdnv hhlv HX hA q4 HBL
          go_wp2_with fail
          refine (R1.out _ (by first | exact H0A | exact H0B)).mono ?_
          rintro en z1 ⟨rfl, Z1⟩
          go_wp2_with fail
          refine (R2.out _ Z1).mono ?_
          rintro en z2 ⟨rfl, Z2⟩
          clear Z1
          go_wp2_with fail
          refine (R3.out _ Z2).mono ?_
          rintro en z3 ⟨rfl, Z3⟩
          clear Z2
          go_wp2_with fail
          refine (R4.out _ Z3).mono ?_
          rintro en z4 ⟨rfl, Z4⟩
          clear Z3
          go_wp2_with fail
          refine (R5.out _ Z4).mono ?_
          rintro en z5 ⟨rfl, Z5⟩
          clear Z4
          go_wp2_with fail
          refine (R6.out _ Z5).mono ?_
          rintro en z6 ⟨rfl, Z6⟩
          clear Z5
          go_wp2_with fail
          refine (R7.out _ Z6).mono ?_
          rintro en z7 ⟨rfl, Z7⟩
          clear Z6
          go_wp2_with fail
          refine (R8.out _ Z7).mono ?_
          rintro en z8 ⟨rfl, Z8⟩
          clear Z7
          go_wp2_with fail
          refine (R9.out _ Z8).mono ?_
          rintro en z9 ⟨xx, rfl, Z9⟩
          clear Z8
          go_wp2_with fail
          refine (R10.out _ xx Z9).mono ?_
          rintro en z10 ⟨yy, rfl, Z10⟩
          clear Z9
          go_wp2_with fail
          refine (R11.out _ xx yy Z10).mono ?_
          rintro en z11 ⟨rfl, Z11⟩
          clear Z10
          go_wp2_with fail
          refine (CLv.out _ _ Z11).mono ?_
          rintro en z12 ⟨rfl, Z12⟩
          clear Z11
          go_wp2_with fail
          go_ret
          exact ⟨rfl, RE.out _ Z12⟩
        · have hlt : decide ((i : Int) < most) = true := decide_eq_true (by omega)
          have CH := Lib.hid (cpuHalted HT.out.1.len HX)
          obtain ⟨hh, hhd⟩ : ∃ hh, C'.halted = hh := ⟨_, rfl⟩
          rw [hhd] at CH
          cases hh
          · by_cases hf0 : f = 0
            · subst hf0
              obtain ⟨k', rfl⟩ : ∃ k', k = k' + 1 := ⟨k - 1, by omega⟩
              obtain ⟨g1, g2⟩ := HT.out.go hhd
              have hok := HT.out.1
              have hdn := HT.out.2.1
              clear HT
              go_wp2_with fail
              refine CH.out.mono ?_
              rintro en z1 ⟨rfl, Z1⟩
              clear CH HX
              go_wp2_with fail
              refine (CF.out _ _).mono ?_
              rintro en y1 ⟨rfl, n1, rfl⟩
              go_wp2_with fail
              have CSx := CS.out _ _ _ _ hok (by omega) (Z1.drewN n1)
              obtain ⟨Y, hY⟩ : ∃ Y, stepS M' C' = Y := ⟨_, rfl⟩
              rw [hY] at g1 g2 CSx
              obtain ⟨E2, C2, M2⟩ := Y
              dsimp only at g1 g2 CSx
              clear hY hok hdn
              refine CSx.mono ?_
              rintro en y3 ⟨rfl, Y3⟩
              clear CSx Z1
              by_cases hE : E2 = 0
              · subst hE
                have HT2 := Lib.hid (g1 rfl)
                clear g1 g2
                go_wp2_with fail
                go_roundw
                case rel => exact ⟨i + 1, k', 0, C2, M2, by go_num, rfl, by omega, by omega, HT2, Y3⟩
                case measure => simp [Go.RowKit.intOf]; omega
              · obtain ⟨g3, g4⟩ := g2 hE
                injection g3 with g5 g6
                subst g5 g6
                have hEb : ((E2 : Int) == 0) = false := by simp; omega
                have HT2 := Lib.hid g4
                clear g1 g2 g4
                go_wp2_with fail
                go_roundw
                case rel => exact ⟨i, k' + 1, E2, _, _, rfl, rfl, by omega, by omega, HT2, Y3⟩
                case measure => simp [Go.RowKit.intOf, hE]
            · have hfb : ((f : Int) == 0) = false := by simp; omega
              have hx := CH.out
              have HA := HT.out.end (by first | exact .inl hk0 | exact .inr (.inl hhd) | exact .inr (.inr hf0))
              have hq := HAL.out
              rw [HA] at hq
              dsimp only at hq
              obtain ⟨q1, q2, q3, q4⟩ := hq
              have hl := HT.out.1.len
              subst q1 q2 q3
              have hml := mod_len (mod_open HX.p3).choose_spec.1
              have hml2 := mod_len (mod_open HX.swap).choose_spec.1
              obtain ⟨A, hA⟩ : ∃ A : List HP, cpH c Cc :: cpH d Cc :: modH m Mc :: modH q M' :: base w :: [] = A := ⟨_, rfl⟩
              have hA0 := hA
              have H0A : Holds E wr A := hA ▸ HX.re 5 [2, 0, 3, 1, 4]
              obtain ⟨rv, hrv⟩ : ∃ rv, Value.agg (u64v Cc.r).toArray = rv := ⟨_, rfl⟩
              have hre : ∀ w, (binOp .eql 95 rv rv).run Try.prog w = .ok (.bool true) w := fun w => by
                rw [← hrv, eqRegs _ _ hl hl, decide_eq_true rfl]
              have hgd : ∀ w x y, (eqGuard .eql 95 x y rv rv).run Try.prog w = .ok () w := fun w x y => by
                rw [← hrv]
                exact run_eqGuard_agg w .eql _ x y _ _ (by kernel_rfl)
              have R1 : Hid (∀ w', Holds E w' A → Calls Try.prog 39 #[.pointer (some ⟨c, 0, none⟩)] w' (Ret E rv A)) := Lib.hid fun w' h => by
                subst hA; rw [← hrv]; exact cpuRegs hl h
              have R2 : Hid (∀ w', Holds E w' A → Calls Try.prog 39 #[.pointer (some ⟨d, 0, none⟩)] w' (Ret E rv A)) := Lib.hid fun w' h => by
                subst hA; rw [← hrv]; exact retC (cpuRegs hl h.swap) fun _ g => g.swap
              obtain ⟨pcv, hpcv⟩ : ∃ pcv, Cc.pc = pcv := ⟨_, rfl⟩
              have R3 : Hid (∀ w', Holds E w' A → Calls Try.prog 40 #[.pointer (some ⟨c, 0, none⟩)] w' (Ret E (.int .u64 pcv) A)) := Lib.hid fun w' h => by
                subst hA; rw [← hpcv]; exact cpuPC hl h
              have R4 : Hid (∀ w', Holds E w' A → Calls Try.prog 40 #[.pointer (some ⟨d, 0, none⟩)] w' (Ret E (.int .u64 pcv) A)) := Lib.hid fun w' h => by
                subst hA; rw [← hpcv]; exact retC (cpuPC hl h.swap) fun _ g => g.swap
              obtain ⟨dnv, hdnv⟩ : ∃ dnv, Cc.done = dnv := ⟨_, rfl⟩
              have R5 : Hid (∀ w', Holds E w' A → Calls Try.prog 41 #[.pointer (some ⟨c, 0, none⟩)] w' (Ret E (.int .i64 dnv) A)) := Lib.hid fun w' h => by
                subst hA; rw [← hdnv]; exact cpuDone hl h
              have R6 : Hid (∀ w', Holds E w' A → Calls Try.prog 41 #[.pointer (some ⟨d, 0, none⟩)] w' (Ret E (.int .i64 dnv) A)) := Lib.hid fun w' h => by
                subst hA; rw [← hdnv]; exact retC (cpuDone hl h.swap) fun _ g => g.swap
              obtain ⟨hlv, hhlv⟩ : ∃ hlv, Cc.halted = hlv := ⟨_, rfl⟩
              have R7 : Hid (∀ w', Holds E w' A → Calls Try.prog 37 #[.pointer (some ⟨c, 0, none⟩)] w' (Ret E (.bool hlv) A)) := Lib.hid fun w' h => by
                subst hA; rw [← hhlv]; exact cpuHalted hl h
              have R8 : Hid (∀ w', Holds E w' A → Calls Try.prog 37 #[.pointer (some ⟨d, 0, none⟩)] w' (Ret E (.bool hlv) A)) := Lib.hid fun w' h => by
                subst hA; rw [← hhlv]; exact retC (cpuHalted hl h.swap) fun _ g => g.swap
              have R9 : Hid (∀ w', Holds E w' A → Calls Try.prog 43 #[.pointer (some ⟨m, 0, none⟩)] w' (RetEx E (fun x : Value × List Value => x.1) (fun x => pur (x.2.length = Mc.length) :: row x.1 137 3 Mc.length ((toldP Mc x.2).flatMap PgV.cells) :: all toldH (toldP Mc x.2) :: A))) := Lib.hid fun w' h => by
                subst hA
                refine (modPages (h.re 4 [2, 0, 1, 3])).mono ?_
                rintro en w'' ⟨x, h1, h2⟩
                exact ⟨x, h1, h2.re 7 [0, 1, 2, 4, 5, 3, 6]⟩
              have R10 : Hid (∀ w' (x : Value × List Value), Holds E w' (pur (x.2.length = Mc.length) :: row x.1 137 3 Mc.length ((toldP Mc x.2).flatMap PgV.cells) :: all toldH (toldP Mc x.2) :: A) → Calls Try.prog 43 #[.pointer (some ⟨q, 0, none⟩)] w' (RetEx E (fun y : Value × List Value => y.1) (fun y => pur (y.2.length = M'.length ∧ x.2.length = Mc.length) :: row x.1 137 3 Mc.length ((toldP Mc x.2).flatMap PgV.cells) :: all toldH (toldP Mc x.2) :: row y.1 137 3 M'.length ((toldP M' y.2).flatMap PgV.cells) :: all toldH (toldP M' y.2) :: A))) := Lib.hid fun w' x h => by
                have hx := h.purE
                subst hA
                refine (modPages (h.re 7 [6, 1, 2, 3, 4, 5])).mono ?_
                rintro en w'' ⟨y, h1, h2⟩
                exact ⟨y, h1, Holds.mkPur ⟨h2.purE, hx⟩ (h2.re 9 [4, 5, 1, 2, 6, 7, 8, 3])⟩
              have R11 : Hid (∀ w' (x y : Value × List Value), Holds E w' (pur (y.2.length = M'.length ∧ x.2.length = Mc.length) :: row x.1 137 3 Mc.length ((toldP Mc x.2).flatMap PgV.cells) :: all toldH (toldP Mc x.2) :: row y.1 137 3 M'.length ((toldP M' y.2).flatMap PgV.cells) :: all toldH (toldP M' y.2) :: A) → Calls Try.prog 42 #[x.1, y.1] w' (Ret E (.bool true) A)) := Lib.hid fun w' x y h => by
                have hx := h.purE
                exact same_pages q4 hx.2 hx.1 hml h.drop
              have RE : Hid (∀ w', Holds E w' A → Below w.heap.size w w') := Lib.hid fun w' h => by
                subst hA
                exact HBL.out _ _ h.drop.drop.drop.drop
              clear HA HT HAL hl hml hml2 hrv hpcv hdnv hhlv HX hA q4 HBL
              have R0 : Hid (∀ w', Holds E w' (cpH d Cc :: modH q M' :: cpH c Cc :: modH m Mc :: base w :: []) → Holds E w' A) := Lib.hid fun w' h => hA0 ▸ h.re 5 [2, 0, 3, 1, 4]
              go_wp2_with fail
              refine hx.mono ?_
              rintro en z0 ⟨rfl, Z0⟩
              have H0B := R0.out _ Z0
              clear hx CH Z0 H0A
              go_wp2_with fail
              refine (R1.out _ (by first | exact H0A | exact H0B)).mono ?_
              rintro en z1 ⟨rfl, Z1⟩
              go_wp2_with fail
              refine (R2.out _ Z1).mono ?_
              rintro en z2 ⟨rfl, Z2⟩
              clear Z1
              go_wp2_with fail
              refine (R3.out _ Z2).mono ?_
              rintro en z3 ⟨rfl, Z3⟩
              clear Z2
              go_wp2_with fail
              refine (R4.out _ Z3).mono ?_
              rintro en z4 ⟨rfl, Z4⟩
              clear Z3
              go_wp2_with fail
              refine (R5.out _ Z4).mono ?_
              rintro en z5 ⟨rfl, Z5⟩
              clear Z4
              go_wp2_with fail
              refine (R6.out _ Z5).mono ?_
              rintro en z6 ⟨rfl, Z6⟩
              clear Z5
              go_wp2_with fail
              refine (R7.out _ Z6).mono ?_
              rintro en z7 ⟨rfl, Z7⟩
              clear Z6
              go_wp2_with fail
              refine (R8.out _ Z7).mono ?_
              rintro en z8 ⟨rfl, Z8⟩
              clear Z7
              go_wp2_with fail
              refine (R9.out _ Z8).mono ?_
              rintro en z9 ⟨xx, rfl, Z9⟩
              clear Z8
              go_wp2_with fail
              refine (R10.out _ xx Z9).mono ?_
              rintro en z10 ⟨yy, rfl, Z10⟩
              clear Z9
              go_wp2_with fail
              refine (R11.out _ xx yy Z10).mono ?_
              rintro en z11 ⟨rfl, Z11⟩
              clear Z10
              go_wp2_with fail
              refine (CLv.out _ _ Z11).mono ?_
              rintro en z12 ⟨rfl, Z12⟩
              clear Z11
              go_wp2_with fail
              go_ret
              exact ⟨rfl, RE.out _ Z12⟩
          · have hx := CH.out
            have HA := HT.out.end (by first | exact .inl hk0 | exact .inr (.inl hhd) | exact .inr (.inr hf0))
            have hq := HAL.out
            rw [HA] at hq
            dsimp only at hq
            obtain ⟨q1, q2, q3, q4⟩ := hq
            have hl := HT.out.1.len
            subst q1 q2 q3
            have hml := mod_len (mod_open HX.p3).choose_spec.1
            have hml2 := mod_len (mod_open HX.swap).choose_spec.1
            obtain ⟨A, hA⟩ : ∃ A : List HP, cpH c Cc :: cpH d Cc :: modH m Mc :: modH q M' :: base w :: [] = A := ⟨_, rfl⟩
            have hA0 := hA
            have H0A : Holds E wr A := hA ▸ HX.re 5 [2, 0, 3, 1, 4]
            obtain ⟨rv, hrv⟩ : ∃ rv, Value.agg (u64v Cc.r).toArray = rv := ⟨_, rfl⟩
            have hre : ∀ w, (binOp .eql 95 rv rv).run Try.prog w = .ok (.bool true) w := fun w => by
              rw [← hrv, eqRegs _ _ hl hl, decide_eq_true rfl]
            have hgd : ∀ w x y, (eqGuard .eql 95 x y rv rv).run Try.prog w = .ok () w := fun w x y => by
              rw [← hrv]
              exact run_eqGuard_agg w .eql _ x y _ _ (by kernel_rfl)
            have R1 : Hid (∀ w', Holds E w' A → Calls Try.prog 39 #[.pointer (some ⟨c, 0, none⟩)] w' (Ret E rv A)) := Lib.hid fun w' h => by
              subst hA; rw [← hrv]; exact cpuRegs hl h
            have R2 : Hid (∀ w', Holds E w' A → Calls Try.prog 39 #[.pointer (some ⟨d, 0, none⟩)] w' (Ret E rv A)) := Lib.hid fun w' h => by
              subst hA; rw [← hrv]; exact retC (cpuRegs hl h.swap) fun _ g => g.swap
            obtain ⟨pcv, hpcv⟩ : ∃ pcv, Cc.pc = pcv := ⟨_, rfl⟩
            have R3 : Hid (∀ w', Holds E w' A → Calls Try.prog 40 #[.pointer (some ⟨c, 0, none⟩)] w' (Ret E (.int .u64 pcv) A)) := Lib.hid fun w' h => by
              subst hA; rw [← hpcv]; exact cpuPC hl h
            have R4 : Hid (∀ w', Holds E w' A → Calls Try.prog 40 #[.pointer (some ⟨d, 0, none⟩)] w' (Ret E (.int .u64 pcv) A)) := Lib.hid fun w' h => by
              subst hA; rw [← hpcv]; exact retC (cpuPC hl h.swap) fun _ g => g.swap
            obtain ⟨dnv, hdnv⟩ : ∃ dnv, Cc.done = dnv := ⟨_, rfl⟩
            have R5 : Hid (∀ w', Holds E w' A → Calls Try.prog 41 #[.pointer (some ⟨c, 0, none⟩)] w' (Ret E (.int .i64 dnv) A)) := Lib.hid fun w' h => by
              subst hA; rw [← hdnv]; exact cpuDone hl h
            have R6 : Hid (∀ w', Holds E w' A → Calls Try.prog 41 #[.pointer (some ⟨d, 0, none⟩)] w' (Ret E (.int .i64 dnv) A)) := Lib.hid fun w' h => by
              subst hA; rw [← hdnv]; exact retC (cpuDone hl h.swap) fun _ g => g.swap
            obtain ⟨hlv, hhlv⟩ : ∃ hlv, Cc.halted = hlv := ⟨_, rfl⟩
            have R7 : Hid (∀ w', Holds E w' A → Calls Try.prog 37 #[.pointer (some ⟨c, 0, none⟩)] w' (Ret E (.bool hlv) A)) := Lib.hid fun w' h => by
              subst hA; rw [← hhlv]; exact cpuHalted hl h
            have R8 : Hid (∀ w', Holds E w' A → Calls Try.prog 37 #[.pointer (some ⟨d, 0, none⟩)] w' (Ret E (.bool hlv) A)) := Lib.hid fun w' h => by
              subst hA; rw [← hhlv]; exact retC (cpuHalted hl h.swap) fun _ g => g.swap
            have R9 : Hid (∀ w', Holds E w' A → Calls Try.prog 43 #[.pointer (some ⟨m, 0, none⟩)] w' (RetEx E (fun x : Value × List Value => x.1) (fun x => pur (x.2.length = Mc.length) :: row x.1 137 3 Mc.length ((toldP Mc x.2).flatMap PgV.cells) :: all toldH (toldP Mc x.2) :: A))) := Lib.hid fun w' h => by
              subst hA
              refine (modPages (h.re 4 [2, 0, 1, 3])).mono ?_
              rintro en w'' ⟨x, h1, h2⟩
              exact ⟨x, h1, h2.re 7 [0, 1, 2, 4, 5, 3, 6]⟩
            have R10 : Hid (∀ w' (x : Value × List Value), Holds E w' (pur (x.2.length = Mc.length) :: row x.1 137 3 Mc.length ((toldP Mc x.2).flatMap PgV.cells) :: all toldH (toldP Mc x.2) :: A) → Calls Try.prog 43 #[.pointer (some ⟨q, 0, none⟩)] w' (RetEx E (fun y : Value × List Value => y.1) (fun y => pur (y.2.length = M'.length ∧ x.2.length = Mc.length) :: row x.1 137 3 Mc.length ((toldP Mc x.2).flatMap PgV.cells) :: all toldH (toldP Mc x.2) :: row y.1 137 3 M'.length ((toldP M' y.2).flatMap PgV.cells) :: all toldH (toldP M' y.2) :: A))) := Lib.hid fun w' x h => by
              have hx := h.purE
              subst hA
              refine (modPages (h.re 7 [6, 1, 2, 3, 4, 5])).mono ?_
              rintro en w'' ⟨y, h1, h2⟩
              exact ⟨y, h1, Holds.mkPur ⟨h2.purE, hx⟩ (h2.re 9 [4, 5, 1, 2, 6, 7, 8, 3])⟩
            have R11 : Hid (∀ w' (x y : Value × List Value), Holds E w' (pur (y.2.length = M'.length ∧ x.2.length = Mc.length) :: row x.1 137 3 Mc.length ((toldP Mc x.2).flatMap PgV.cells) :: all toldH (toldP Mc x.2) :: row y.1 137 3 M'.length ((toldP M' y.2).flatMap PgV.cells) :: all toldH (toldP M' y.2) :: A) → Calls Try.prog 42 #[x.1, y.1] w' (Ret E (.bool true) A)) := Lib.hid fun w' x y h => by
              have hx := h.purE
              exact same_pages q4 hx.2 hx.1 hml h.drop
            have RE : Hid (∀ w', Holds E w' A → Below w.heap.size w w') := Lib.hid fun w' h => by
              subst hA
              exact HBL.out _ _ h.drop.drop.drop.drop
            clear HA HT HAL hl hml hml2 hrv hpcv hdnv hhlv HX hA q4 HBL
            have R0 : Hid (∀ w', Holds E w' (cpH d Cc :: modH q M' :: cpH c Cc :: modH m Mc :: base w :: []) → Holds E w' A) := Lib.hid fun w' h => hA0 ▸ h.re 5 [2, 0, 3, 1, 4]
            go_wp2_with fail
            refine hx.mono ?_
            rintro en z0 ⟨rfl, Z0⟩
            have H0B := R0.out _ Z0
            clear hx CH Z0 H0A
            go_wp2_with fail
            refine (R1.out _ (by first | exact H0A | exact H0B)).mono ?_
            rintro en z1 ⟨rfl, Z1⟩
            go_wp2_with fail
            refine (R2.out _ Z1).mono ?_
            rintro en z2 ⟨rfl, Z2⟩
            clear Z1
            go_wp2_with fail
            refine (R3.out _ Z2).mono ?_
            rintro en z3 ⟨rfl, Z3⟩
            clear Z2
            go_wp2_with fail
            refine (R4.out _ Z3).mono ?_
            rintro en z4 ⟨rfl, Z4⟩
            clear Z3
            go_wp2_with fail
            refine (R5.out _ Z4).mono ?_
            rintro en z5 ⟨rfl, Z5⟩
            clear Z4
            go_wp2_with fail
            refine (R6.out _ Z5).mono ?_
            rintro en z6 ⟨rfl, Z6⟩
            clear Z5
            go_wp2_with fail
            refine (R7.out _ Z6).mono ?_
            rintro en z7 ⟨rfl, Z7⟩
            clear Z6
            go_wp2_with fail
            refine (R8.out _ Z7).mono ?_
            rintro en z8 ⟨rfl, Z8⟩
            clear Z7
            go_wp2_with fail
            refine (R9.out _ Z8).mono ?_
            rintro en z9 ⟨xx, rfl, Z9⟩
            clear Z8
            go_wp2_with fail
            refine (R10.out _ xx Z9).mono ?_
            rintro en z10 ⟨yy, rfl, Z10⟩
            clear Z9
            go_wp2_with fail
            refine (R11.out _ xx yy Z10).mono ?_
            rintro en z11 ⟨rfl, Z11⟩
            clear Z10
            go_wp2_with fail
            refine (CLv.out _ _ Z11).mono ?_
            rintro en z12 ⟨rfl, Z12⟩
            clear Z11
            go_wp2_with fail
            go_ret
            exact ⟨rfl, RE.out _ Z12⟩
end
end Go.Proofs.Ytjbphdjheklhbaa
