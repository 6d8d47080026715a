/-
  Layer 48, CpuBytes: the walk.
-/
import Derived.Test.YtjbphdjheklhbaaCb5
import Derived.Test.YtjbphdjheklhbaaCb6
namespace Go.Proofs.Ytjbphdjheklhbaa
open Go.RowKit

set_option maxRecDepth 100000 in
set_option maxHeartbeats 4000000 in
theorem bytes_walk (L : List InsS) (hLi : ∀ x ∈ L, -2147483648 ≤ x.imm ∧ x.imm ≤ 2147483647) (hLl : L.length ≤ 4611686018427387904) (B : List UInt8) (hBl : B.length ≤ 4611686018427387904) (va vb : Value) (w : World) (hra : Reads w va 4 L.length (L.flatMap InsS.cells)) (hrb : RdB w vb B) :
    Calls Try.prog 6 #[va, vb] w (fun e w' => e = .returned (.bool true) ∧ Below w.heap.size w w') := by
  have H0 := Holds.start w
  generalize hE : (⟨w.os, w.output, w.tape⟩ : Env) = E at *
  have hbel : ∀ w' A, Holds E w' (base w :: A) → Below w.heap.size w w' := fun w' A h => by subst hE; exact h.below rfl rfl rfl
  have HBL := Lib.hid hbel
  clear hE hbel
  have CLv := Lib.hid fun w' X (h : Holds E w' X) => lives48 h
  have HRA : Hid (∀ w' X, Holds E w' (base w :: X) → Reads w' va 4 L.length (L.flatMap InsS.cells)) := Lib.hid fun w' X h => hra.based h
  have HRB : Hid (∀ w' X, Holds E w' (base w :: X) → RdB w' vb B) := Lib.hid fun w' X h => Reads.based hrb h
  obtain ⟨aa, ca, rfl⟩ := hra.shape
  obtain ⟨ab, cb, rfl⟩ := hrb.shape
  obtain ⟨n, hn⟩ : ∃ n, L.length = n := ⟨_, rfl⟩
  obtain ⟨nb, hnb⟩ : ∃ nb, B.length = nb := ⟨_, rfl⟩
  have HN := Lib.hid hn
  have HNB := Lib.hid hnb
  rw [hn] at HRA hLl ⊢
  rw [hnb] at HRB hBl ⊢
  clear hra hrb
  by_cases hlong : 100 < n ∨ 900 < nb
  · have d7 : (decide ((100 : Int) < (n : Int)) = true) ∨ (decide ((100 : Int) < (n : Int)) = false ∧ decide ((900 : Int) < (nb : Int)) = true) := by
      by_cases h : 100 < n
      · exact .inl (decide_eq_true (by omega))
      · exact .inr ⟨decide_eq_false (by omega), decide_eq_true (by omega)⟩
    clear HRA HRB hlong
    rcases d7 with d1 | ⟨d1, d2⟩
    · go_enter Try.func6, Try.ntmps6
      go_wp2_with fail
      refine (CLv.out _ _ H0).mono ?_
      rintro en w1 ⟨rfl, H1⟩
      go_wp2_with fail
      go_ret
      exact ⟨rfl, HBL.out _ _ H1⟩
    · go_enter Try.func6, Try.ntmps6
      go_wp2_with fail
      refine (CLv.out _ _ H0).mono ?_
      rintro en w1 ⟨rfl, H1⟩
      go_wp2_with fail
      go_ret
      exact ⟨rfl, HBL.out _ _ H1⟩
  · have hn100 : n ≤ 100 := by omega
    have hb900 : nb ≤ 900 := by omega
    have d1 : decide ((100 : Int) < (n : Int)) = false := decide_eq_false (by omega)
    have d2 : decide ((900 : Int) < (nb : Int)) = false := decide_eq_false (by omega)
    have CM := Lib.hid fun w' X x (h' : Holds E w' X) => cpuMay x h'
    have CRM := Lib.hid fun w' X x (h' : Holds E w' X) => ref48May x h'
    have CRP := Lib.hid fun w' X x (h1 : InsIn x) (h' : Holds E w' X) => ref48Put x h1.may h1.imm.1 h1.imm.2 h'
    have CP : Hid (∀ w' X, (∀ w'', Holds E w'' X → Holds E w'' (base w :: [])) → Holds E w' X → Calls Try.prog 27 #[.slice aa n ca] w' (RetEx E (fun v' : Value => .tuple #[v', .int .i64 (putE L)]) (fun v' => bts v' (putB L) :: X))) := Lib.hid fun w' X hX h' => by
      have := cpuPut L (by omega) hLi (.slice aa L.length ca) (fun w'' g => by rw [hn]; exact HRA.out _ _ (hX _ g)) h'
      rw [hn] at this
      exact this
    have CTS : Hid (∀ w' X, (∀ w'', Holds E w'' X → Holds E w'' (base w :: [])) → Holds E w' X → Calls Try.prog 30 #[.slice ab nb cb] w' (Ret E (.bool true) X)) := Lib.hid fun w' X hX h' => by
      have := cpuTakes B (by omega) (.slice ab B.length cb) (fun w'' g => by rw [hnb]; exact HRB.out _ _ (hX _ g)) h'
      rw [hnb] at this
      exact this
    have HLI := Lib.hid hLi
    clear hlong hLi hn hnb
    go_enter Try.func6, Try.ntmps6
    go_wp2_with fail
    go_loopw [5, 6, 7] (fun o al i wr => ∃ (k : Nat) (ov : Value), ov = o ∧ k ≤ n ∧ i = .int .i64 (k : Nat) ∧ al = .bool ((L.take k).all mayI) ∧ Holds E wr (bts ov (wantB (L.take k)) :: base w :: [])) (fun _ _ i _ => n - (Go.RowKit.intOf i).toNat)
    case atStart => exact ⟨0, _, rfl, by omega, rfl, rfl, bts.nil H0⟩
    case round =>
      clear H0
      obtain ⟨k, ov, rfl, hk, rfl, rfl, HX⟩ := hrel
      by_cases hlt : k < n
      · obtain ⟨x, hxk⟩ : ∃ x, L[k]? = some x := ⟨_, List.getElem?_eq_getElem (by rw [HN.out]; exact hlt)⟩
        have hxi := HLI.out x (List.mem_of_getElem? hxk)
        have HRAk := HRA.out wr _ HX.swap
        obtain ⟨g, o, hga, _⟩ := HRAk.at (by omega)
        subst hga
        have HCL : Hid (∀ w' X, Holds E w' (base w :: X) → w'.cell? ⟨g, o + k * 4, none⟩ = some (.int .i64 x.op) ∧ w'.cell? ⟨g, o + k * 4 + 1, none⟩ = some (.int .i64 x.r) ∧ w'.cell? ⟨g, o + k * 4 + 2, none⟩ = some (.int .i64 x.s) ∧ w'.cell? ⟨g, o + k * 4 + 3, none⟩ = some (.int .i32 x.imm)) := Lib.hid fun w' X h' => by
          obtain ⟨g2, o2, hg2, rr⟩ := (HRA.out w' X h').at (by omega)
          cases hg2
          exact ⟨rr _ _ (icells_at hxk 0 (by omega)), by rw [Nat.add_assoc]; exact rr _ _ (icells_at hxk 1 (by omega)), by rw [Nat.add_assoc]; exact rr _ _ (icells_at hxk 2 (by omega)), by rw [Nat.add_assoc]; exact rr _ _ (icells_at hxk 3 (by omega))⟩
        have HSA := Lib.hid (all_snoc hxk)
        have HSW := Lib.hid (want_snoc hxk)
        have hwl := want_len (L.take k)
        rw [List.length_take, HN.out] at hwl
        have hwl2 : (wantB (L.take k)).length ≤ 800 := by omega
        obtain ⟨al, hal⟩ : ∃ al, (L.take k).all mayI = al := ⟨_, rfl⟩
        rw [hal] at HSA ⊢
        obtain ⟨m, hm⟩ : ∃ m, mayI x = m := ⟨_, rfl⟩
        have HIN : Hid (m = true → InsIn x) := Lib.hid fun h => ⟨hm.trans h, hxi⟩
        have CMx := Lib.hid fun w' X (h' : Holds E w' X) => CM.out w' X x h'
        have CRMx := Lib.hid fun w' X (h' : Holds E w' X) => CRM.out w' X x h'
        have CRPx := Lib.hid fun w' X (h1 : m = true) (h' : Holds E w' X) => CRP.out w' X x (HIN.out h1) h'
        rw [hm] at CMx CRMx HSA HSW
        obtain ⟨op, rr, ss, imm⟩ := x
        unfold InsS.val at CMx CRMx CRPx
        dsimp only at *
        obtain ⟨c0, c1, c2, c3⟩ := HCL.out _ _ HX.swap
        have hgl := World.block_lt_of_cell? _ _ c0
        obtain ⟨bx, hbx⟩ : ∃ bx, wr.heap.size = bx := ⟨_, rfl⟩
        have H1 := HX.alloc (.cells #[.int .i64 op, .int .i64 rr, .int .i64 ss, .int .i32 imm] 70)
        rw [hbx] at H1
        have kI : (k : Int) < (n : Int) := by omega
        have kI0 : (0 : Int) ≤ (k : Int) := by omega
        obtain ⟨I, Wf, hI, hW, hWs⟩ := worlds_of H1
        have r0 : ∀ i j, (Wf i).cell? ⟨bx, j, none⟩ = #[Value.int .i64 op, .int .i64 rr, .int .i64 ss, .int .i32 imm][j]? := fun i => (hW i).cells
        have r1 := fun i => (HCL.out _ _ (hW i).p2).1
        have r2 := fun i => (HCL.out _ _ (hW i).p2).2.1
        have r3 := fun i => (HCL.out _ _ (hW i).p2).2.2.1
        have r4 := fun i => (HCL.out _ _ (hW i).p2).2.2.2
        clear hxk hal hm HX hwl
        go_wp2_with fail
        refine wp_region_holds hWs H1 (by kernel_rfl) (by kernel_rfl) ?_
        (repeat (go_big_quiet_step (first | (go_at_call 24; exact quietH (CMx.out _ _ (hW _)) hWs) | (go_at_call 25; exact quietH (CRMx.out _ _ (hW _)) hWs)))); refine wpQuiet_nil ?_; intro _ hw'; obtain ⟨nq, hw''⟩ := hw'; subst hw''
        have H2 := hW nq
        generalize Wf nq = w2 at *
        clear r0 r1 r2 r3 r4 hW hWs H1 c0 c1 c2 c3
        have z0 := H2.cells
        cases al
        · cases m
          · go_wp2_with fail
            refine (CRMx.out _ _ H2).mono ?_
            rintro en w3 ⟨rfl, H3⟩
            have HF : Hid (Holds E _ (bts ov (wantB (L.take (k + 1))) :: base w :: [])) := Lib.hid (by
              rw [HSW.out, if_neg (by decide), List.append_nil]
              exact (H3).drop)
            clear z0
            go_wp2_with fail
            go_roundw
            case rel => exact ⟨k + 1, ov, rfl, by omega, by go_num, by rw [HSA.out]; rfl, HF.out⟩
            case measure => simp [Go.RowKit.intOf]; omega
          · go_wp2_with fail
            refine (CRMx.out _ _ H2).mono ?_
            rintro en w3 ⟨rfl, H3⟩
            have z3 := (H3).cells
            go_wp2_with fail
            refine (CRPx.out _ _ (by first | rfl | trivial) (H3)).mono ?_
            rintro en w6 ⟨pv, rfl, H6⟩
            obtain ⟨lw, hlw⟩ : ∃ lw, (wantB (L.take k)).length = lw := ⟨_, rfl⟩
            have HLW := Lib.hid hlw
            rw [hlw] at hwl2
            have HRL : Reads w6 pv 1 8 (u8v (insB ⟨op, rr, ss, imm⟩)) := by
              have h := bts.reads H6
              unfold RdB at h
              rw [insB_len] at h
              exact h
            have HA : Holds E w6 (row ov 5 1 lw (u8v (wantB (L.take k))) :: bts pv (insB ⟨op, rr, ss, imm⟩) :: pts bx (.cells #[.int .i64 op, .int .i64 rr, .int .i64 ss, .int .i32 imm] 70 (0, 0)) :: base w :: []) := by
              have h : Holds E w6 (bts ov (wantB (L.take k)) :: bts pv (insB ⟨op, rr, ss, imm⟩) :: pts bx (.cells #[.int .i64 op, .int .i64 rr, .int .i64 ss, .int .i32 imm] 70 (0, 0)) :: base w :: []) := H6.re 4 [2, 0, 1, 3]
              unfold bts at h
              rw [hlw] at h
              exact h
            clear H6 hlw z0 z3
            go_wp2_with (at_builtin; refine wpList_append_sl rfl (.tmp 49) _ _ rfl 5 1 1 elem_u8 ov lw (u8v (wantB (L.take k))) rfl HA pv 8 (u8v (insB ⟨op, rr, ss, imm⟩)) rfl HRL (u8v_one _) ?_ ?_ ?_)
            · unfold maxLen; omega
            · omega
            intro v7 w7 H7
            have HF : Hid (Holds E w7 (bts v7 (wantB (L.take (k + 1))) :: base w :: [])) := Lib.hid (by
              rw [HSW.out]
              simp only [if_true]
              unfold bts
              rw [u8v_append, List.length_append, HLW.out, insB_len]
              exact H7.re 4 [0, 3])
            clear HA HRL H7
            go_wp2_with fail
            go_roundw
            case rel => exact ⟨k + 1, v7, rfl, by omega, by go_num, by rw [HSA.out]; rfl, HF.out⟩
            case measure => simp [Go.RowKit.intOf]; omega
        · cases m
          · go_wp2_with fail
            refine (CRMx.out _ _ H2).mono ?_
            rintro en w3 ⟨rfl, H3⟩
            have z1 := H3.cells
            go_wp2_with fail
            refine (CRMx.out _ _ H3).mono ?_
            rintro en w4 ⟨rfl, H4⟩
            have HF : Hid (Holds E _ (bts ov (wantB (L.take (k + 1))) :: base w :: [])) := Lib.hid (by
              rw [HSW.out, if_neg (by decide), List.append_nil]
              exact (H4).drop)
            clear z0
            go_wp2_with fail
            go_roundw
            case rel => exact ⟨k + 1, ov, rfl, by omega, by go_num, by rw [HSA.out]; rfl, HF.out⟩
            case measure => simp [Go.RowKit.intOf]; omega
          · go_wp2_with fail
            refine (CRMx.out _ _ H2).mono ?_
            rintro en w3 ⟨rfl, H3⟩
            have z1 := H3.cells
            go_wp2_with fail
            refine (CRMx.out _ _ H3).mono ?_
            rintro en w4 ⟨rfl, H4⟩
            have z3 := (H4).cells
            go_wp2_with fail
            refine (CRPx.out _ _ (by first | rfl | trivial) (H4)).mono ?_
            rintro en w6 ⟨pv, rfl, H6⟩
            obtain ⟨lw, hlw⟩ : ∃ lw, (wantB (L.take k)).length = lw := ⟨_, rfl⟩
            have HLW := Lib.hid hlw
            rw [hlw] at hwl2
            have HRL : Reads w6 pv 1 8 (u8v (insB ⟨op, rr, ss, imm⟩)) := by
              have h := bts.reads H6
              unfold RdB at h
              rw [insB_len] at h
              exact h
            have HA : Holds E w6 (row ov 5 1 lw (u8v (wantB (L.take k))) :: bts pv (insB ⟨op, rr, ss, imm⟩) :: pts bx (.cells #[.int .i64 op, .int .i64 rr, .int .i64 ss, .int .i32 imm] 70 (0, 0)) :: base w :: []) := by
              have h : Holds E w6 (bts ov (wantB (L.take k)) :: bts pv (insB ⟨op, rr, ss, imm⟩) :: pts bx (.cells #[.int .i64 op, .int .i64 rr, .int .i64 ss, .int .i32 imm] 70 (0, 0)) :: base w :: []) := H6.re 4 [2, 0, 1, 3]
              unfold bts at h
              rw [hlw] at h
              exact h
            clear H6 hlw z0 z3
            go_wp2_with (at_builtin; refine wpList_append_sl rfl (.tmp 49) _ _ rfl 5 1 1 elem_u8 ov lw (u8v (wantB (L.take k))) rfl HA pv 8 (u8v (insB ⟨op, rr, ss, imm⟩)) rfl HRL (u8v_one _) ?_ ?_ ?_)
            · unfold maxLen; omega
            · omega
            intro v7 w7 H7
            have HF : Hid (Holds E w7 (bts v7 (wantB (L.take (k + 1))) :: base w :: [])) := Lib.hid (by
              rw [HSW.out]
              simp only [if_true]
              unfold bts
              rw [u8v_append, List.length_append, HLW.out, insB_len]
              exact H7.re 4 [0, 3])
            clear HA HRL H7
            go_wp2_with fail
            go_roundw
            case rel => exact ⟨k + 1, v7, rfl, by omega, by go_num, by rw [HSA.out]; rfl, HF.out⟩
            case measure => simp [Go.RowKit.intOf]; omega
      · obtain rfl : n = k := by omega
        have htk : L.take n = L := List.take_of_length_le (by rw [HN.out]; exact Nat.le_refl _)
        rw [htk] at HX ⊢
        have hkI : ¬ (n : Int) < (n : Int) := by omega
        clear htk
        by_cases hall : L.all mayI = true
        · have hin : ∀ x ∈ L, InsIn x := fun x hx => ⟨by rw [List.all_eq_true] at hall; exact hall x hx, HLI.out x hx⟩
          obtain ⟨t1, t2, t3, t4, t5⟩ := take_put hin
          rw [want_all hall] at HX
          rw [hall]
          rw [t1, t2] at CP
          have CTk : Hid (∀ w' v X, Holds E w' (bts v (L.flatMap insB) :: X) → Calls Try.prog 28 #[v] w' (RetEx E (fun v' : Value => .tuple #[v', .int .i64 (8 * n : Nat), .int .i64 0]) (fun v' => row v' 71 4 n (L.flatMap InsS.cells) :: bts v (L.flatMap insB) :: X))) := Lib.hid fun w' v X h' => by
            have h1 := cpuTake (L.flatMap insB) (by rw [insB_lens, HN.out]; omega) v (fun w'' g => bts.reads g) h'
            rw [t3, t4, t5, HN.out] at h1
            exact h1
          have hbl : (L.flatMap insB).length = 8 * n := by rw [insB_lens, HN.out]; omega
          have CBy : Hid (∀ w' va vb X, Holds E w' (bts va (L.flatMap insB) :: bts vb (L.flatMap insB) :: X) → Calls Try.prog 29 #[va, vb] w' (Quiet w' (.bool true))) := Lib.hid fun w' va vb X h' => by
            have := ref01Bytes (bts.reads h') (bts.reads h'.swap)
            rwa [decide_eq_true rfl] at this
          obtain ⟨q8, hq8⟩ : ∃ q8, 8 * n = q8 := ⟨_, rfl⟩
          rw [hq8] at CTk hbl
          have HBLL := Lib.hid hbl
          have q8b : q8 ≤ 800 := by omega
          clear t1 t2 t3 t4 t5 hin hq8
          go_wp2_with fail
          refine (CP.out _ _ (fun _ g => g.drop) HX).mono ?_
          rintro en w2 ⟨pv, rfl, H2⟩
          obtain ⟨pa, pc, hpv⟩ := (bts.reads H2).shape
          rw [hbl] at hpv
          subst hpv
          clear CP HX hbl
          go_wp2_with fail
          refine (CTk.out _ _ _ H2).mono ?_
          rintro en w3 ⟨mv, rfl, H3⟩
          obtain ⟨ma, mc, rfl⟩ := row_shape H3
          clear CTk H2
          go_wp2_with fail
          refine (CBy.out _ _ _ _ (H3.re 4 [1, 2, 0, 3])).mono ?_
          rintro en w4 ⟨rfl, n4, rfl⟩
          have H4 := H3.drewN n4
          clear CBy H3
          go_wp2_with fail
          go_loopw [14] (fun i wr2 => ∃ j : Nat, j ≤ n ∧ i = .int .i64 (j : Nat) ∧ Holds E wr2 (row (.slice ma n mc) 71 4 n (L.flatMap InsS.cells) :: base w :: [])) (fun i _ => n - (Go.RowKit.intOf i).toNat)
          case atStart => exact ⟨0, by omega, rfl, H4.re 4 [0, 3]⟩
          case round =>
            clear H4
            obtain ⟨j, hj, rfl, HY⟩ := hrel
            by_cases hjn : j < n
            · obtain ⟨x, hxj⟩ : ∃ x, L[j]? = some x := ⟨_, List.getElem?_eq_getElem (by rw [HN.out]; exact hjn)⟩
              obtain ⟨g, o, hga, _⟩ := (HRA.out _ _ HY.swap).at (by omega)
              subst hga
              obtain ⟨g2, o2, hgb, _⟩ := (row.reads HY).at (by omega)
              subst hgb
              have HCL : Hid (∀ w', Holds E w' (row (.slice (some ⟨g2, o2, none⟩) n mc) 71 4 n (L.flatMap InsS.cells) :: base w :: []) → (w'.cell? ⟨g, o + j * 4, none⟩ = some (.int .i64 x.op) ∧ w'.cell? ⟨g, o + j * 4 + 1, none⟩ = some (.int .i64 x.r) ∧ w'.cell? ⟨g, o + j * 4 + 2, none⟩ = some (.int .i64 x.s) ∧ w'.cell? ⟨g, o + j * 4 + 3, none⟩ = some (.int .i32 x.imm)) ∧ (w'.cell? ⟨g2, o2 + j * 4, none⟩ = some (.int .i64 x.op) ∧ w'.cell? ⟨g2, o2 + j * 4 + 1, none⟩ = some (.int .i64 x.r) ∧ w'.cell? ⟨g2, o2 + j * 4 + 2, none⟩ = some (.int .i64 x.s) ∧ w'.cell? ⟨g2, o2 + j * 4 + 3, none⟩ = some (.int .i32 x.imm))) := Lib.hid fun w' h' => by
                obtain ⟨g3, o3, hg3, rr⟩ := (HRA.out w' _ h'.swap).at (by omega)
                cases hg3
                obtain ⟨g4, o4, hg4, ss⟩ := (row.reads h').at (by omega)
                cases hg4
                exact ⟨⟨rr _ _ (icells_at hxj 0 (by omega)), by rw [Nat.add_assoc]; exact rr _ _ (icells_at hxj 1 (by omega)), by rw [Nat.add_assoc]; exact rr _ _ (icells_at hxj 2 (by omega)), by rw [Nat.add_assoc]; exact rr _ _ (icells_at hxj 3 (by omega))⟩, ⟨ss _ _ (icells_at hxj 0 (by omega)), by rw [Nat.add_assoc]; exact ss _ _ (icells_at hxj 1 (by omega)), by rw [Nat.add_assoc]; exact ss _ _ (icells_at hxj 2 (by omega)), by rw [Nat.add_assoc]; exact ss _ _ (icells_at hxj 3 (by omega))⟩⟩
              obtain ⟨op, rr, ss, imm⟩ := x
              dsimp only at HCL
              have jI : (j : Int) < (n : Int) := by omega
              have jI0 : (0 : Int) ≤ (j : Int) := by omega
              obtain ⟨I, Wf, hI, hW, hWs⟩ := worlds_of HY
              have r1 := fun i => (HCL.out _ (hW i)).1.1
              have r2 := fun i => (HCL.out _ (hW i)).1.2.1
              have r3 := fun i => (HCL.out _ (hW i)).1.2.2.1
              have r4 := fun i => (HCL.out _ (hW i)).1.2.2.2
              have s1 := fun i => (HCL.out _ (hW i)).2.1
              have s2 := fun i => (HCL.out _ (hW i)).2.2.1
              have s3 := fun i => (HCL.out _ (hW i)).2.2.2.1
              have s4 := fun i => (HCL.out _ (hW i)).2.2.2.2
              clear hxj
              go_wp2_with fail
              refine wp_region_holds hWs HY (by kernel_rfl) (by kernel_rfl) ?_
              (repeat (go_big_quiet_step (fail))); refine wpQuiet_nil ?_; intro _ hw'; obtain ⟨nq, hw''⟩ := hw'; subst hw''
              have H8 := Lib.hid (hW nq)
              clear r1 r2 r3 r4 s1 s2 s3 s4 hW hWs HY HCL
              go_wp2_with fail
              go_roundw
              case rel => exact ⟨j + 1, by omega, by go_num, H8.out⟩
              case measure => simp [Go.RowKit.intOf]; omega
            · obtain rfl : n = j := by omega
              go_wp2_with fail
              refine (CTS.out _ _ (fun _ g => g) HY.drop).mono ?_
              rintro en w6 ⟨rfl, H6⟩
              clear HY
              go_wp2_with fail
              refine (CLv.out _ _ H6).mono ?_
              rintro en w7 ⟨rfl, H7⟩
              go_wp2_with fail
              go_ret
              exact ⟨rfl, HBL.out _ _ H7⟩
        · have hnot : L.all mayI = false := by simpa using hall
          obtain ⟨t1, t2⟩ := put_not hnot
          rw [hnot]
          rw [t1, t2] at CP
          clear hall hnot t1 t2
          go_wp2_with fail
          refine (CP.out _ _ (fun _ g => g.drop) HX).mono ?_
          rintro en w2 ⟨pv, rfl, H2⟩
          obtain ⟨pa, pc, rfl⟩ := (bts.reads H2).shape
          have H3 := H2.drop.drop
          clear CP HX H2
          go_wp2_with fail
          refine (CTS.out _ _ (fun _ g => g) H3).mono ?_
          rintro en w6 ⟨rfl, H6⟩
          clear H3
          go_wp2_with fail
          refine (CLv.out _ _ H6).mono ?_
          rintro en w7 ⟨rfl, H7⟩
          go_wp2_with fail
          go_ret
          exact ⟨rfl, HBL.out _ _ H7⟩
end Go.Proofs.Ytjbphdjheklhbaa
