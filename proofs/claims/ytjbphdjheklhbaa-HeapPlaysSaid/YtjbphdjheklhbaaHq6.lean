/-
  Layer 47, HeapPlays: the walk.
-/
import Derived.Test.YtjbphdjheklhbaaHq5
namespace Go.Proofs.Ytjbphdjheklhbaa
open Go.RowKit

/-- The state of the law's loop: the reference's blocks, what was told, the heap. -/
def plS (h m bs size n : Nat) (xv tv : Value) (l : List BlkS) (T : List Nat) (w0 : World) : List HP :=
  xRow xv l :: row tv 3 1 T.length (ints (nats T)) :: heapA h m bs size n l :: base w0 :: []
set_option maxRecDepth 100000 in
set_option maxHeartbeats 2000000 in
theorem plays_walk (bs : Nat) (hbs : bs < 18446744073709551616) (zsz : Int) (hsz0 : -9223372036854775808 ≤ zsz) (hsz1 : zsz ≤ 9223372036854775807) (zs : List Int) (n : Nat) (hzl : zs.length = n * 2) (hzb : ∀ z ∈ zs, -9223372036854775808 ≤ z ∧ z ≤ 9223372036854775807) (hn : n ≤ 4611686018427387904)
    (v : Value) (w : World) (hr0 : Reads w v 2 n (ints zs)) :
    Calls Try.prog 5 #[.int .u64 bs, .int .i64 zsz, v] w (fun e w' => e = .returned (.bool true) ∧ Below w.heap.size w w') := by
  have H0 := Holds.start w
  generalize hE : (⟨w.os, w.output, w.tape⟩ : Env) = E at *
  have hbel : ∀ w' A, Holds E w' (base w :: A) → Below w.heap.size w w' := fun w' A h => by subst hE; exact h.below rfl rfl rfl
  have HBL := Lib.hid hbel
  clear hE hbel
  have CLv := Lib.hid fun w' X (h : Holds E w' X) => lives47 h
  obtain ⟨ad, c, rfl⟩ := hr0.shape
  have HR : Hid (∀ w' X, Holds E w' (base w :: X) → Reads w' (.slice ad n c) 2 n (ints zs)) := Lib.hid fun w' X h => hr0.based h
  clear hr0
  by_cases hlong : 40 < n
  · have hd : decide ((40 : Int) < (n : Int)) = true := by simp; omega
    clear HR
    go_enter Try.func5, Try.ntmps5
    go_wp2_with fail
    refine (CLv.out _ _ H0).mono ?_
    rintro en w1 ⟨rfl, H1⟩
    go_wp2_with fail
    go_ret
    exact ⟨rfl, HBL.out _ _ H1⟩
  · have hn40 : n ≤ 40 := by omega
    have hd : decide ((40 : Int) < (n : Int)) = false := by simp; omega
    have CN1 := Lib.hid fun w' (z : Int) => hpAllocNil (w := w') z
    have CN2 := Lib.hid fun w' => hpLeftNil (w := w')
    have CN3 := Lib.hid fun w' => hpBlocksNil (w := w')
    have CN4 := Lib.hid fun w' (z : Nat) => hpFreeNil (w := w') z
    have CM : Hid (∀ w', Holds E w' [base w] → Calls Try.prog 9 #[.int .i64 3] w' (RetEx E (fun x : Nat × List Pg => .pointer (some ⟨x.1, 0, none⟩)) (fun x => pur (Fl 3 x.2) :: modH x.1 x.2 :: base w :: []))) := Lib.hid fun w' h => apMapped 3 (by omega) h
    have CFl := Lib.hid fun w' m => hpFlat (w := w') (m := m)
    have CNN := Lib.hid fun w' => hpNewNil (w := w') (base := bs) zsz
    have CMy := Lib.hid fun w' => refMay (w := w') hbs zsz hsz0 hsz1
    clear hlong
    go_enter Try.func5, Try.ntmps5
    go_wp2_with fail
    refine (CN1.out _ _).mono ?_
    rintro en w1 ⟨rfl, q1, rfl⟩
    go_wp2_with fail
    refine (CN2.out _).mono ?_
    rintro en w2 ⟨rfl, q2, rfl⟩
    go_wp2_with fail
    refine (CN3.out _).mono ?_
    rintro en w3 ⟨rfl, q3, rfl⟩
    go_wp2_with fail
    refine (CN4.out _ _).mono ?_
    rintro en w4 ⟨rfl, q4, rfl⟩
    have H1 := H0.drewN (q1 + q2 + q3 + q4)
    clear CN1 CN2 CN3 CN4 H0
    go_wp2_with fail
    refine (CM.out _ H1).mono ?_
    rintro en w5 ⟨⟨m, M⟩, rfl, H2⟩
    have F := Lib.hid H2.purE
    have H3 := H2.drop
    clear H1 H2 CM
    dsimp only at *
    go_wp2_with fail
    refine (CFl.out _ _).mono ?_
    rintro en w6 ⟨rfl, q6, rfl⟩
    by_cases hmay : mayH bs zsz = true
    · rw [hmay] at CMy
      obtain ⟨hm1, hm2, hm3, hm4, hm5⟩ := mayH_ok hmay
      obtain ⟨size, rfl⟩ : ∃ size : Nat, zsz = size := ⟨zsz.toNat, by omega⟩
      obtain ⟨top, htop⟩ : ∃ top, bs + size = top := ⟨_, rfl⟩
      have i1 : (bs : Int) + (size : Int) = (top : Int) := by omega
      have htb : top < 18446744073709551616 := by omega
      have hs6 : size ≤ 65536 := by omega
      have hs16 : 16 ≤ size := by omega
      have HMY := Lib.hid hmay
      by_cases hhi : 12288 < top
      · have CNw := Lib.hid fun w' (h : Holds E w' (modH m M :: base w :: [])) => hpNew hbs hmay h
        obtain ⟨EE, hEE⟩ : ∃ EE, chk M bs 8 2 = EE := ⟨_, rfl⟩
        rw [hEE] at CNw
        have d1 : decide ((12288 : Int) < (top : Int)) = true := by simp; omega
        clear hEE hmay hm1 hm2 hm3 hm4 hm5 hsz0 hsz1
        by_cases hE0 : EE = 0
        · subst hE0
          unfold ptrIf at CNw
          go_wp2_with fail
          refine (CNw.out _ (H3.drewN q6)).mono ?_
          rintro en w7 ⟨h, rfl, H4⟩
          clear CNw H3
          go_wp2_with fail
          refine (CNN.out _).mono ?_
          rintro en w8 ⟨rfl, q8, rfl⟩
          go_wp2_with fail
          refine (CMy.out _).mono ?_
          rintro en w9 ⟨rfl, q9, rfl⟩
          have H5 := H4.drop.drop.drewN (q8 + q9)
          clear H4 CNN CMy htop
          go_wp2_with fail
          refine (CLv.out _ _ H5).mono ?_
          rintro en w10 ⟨rfl, H6⟩
          go_wp2_with fail
          go_ret
          exact ⟨rfl, HBL.out _ _ H6⟩
        · unfold ptrIf at CNw
          simp only [if_neg hE0] at CNw
          have d2 : ((EE : Int) != 0) = true := by simp; omega
          go_wp2_with fail
          refine (CNw.out _ (H3.drewN q6)).mono ?_
          rintro en w7 ⟨h, rfl, H4⟩
          clear CNw H3
          go_wp2_with fail
          refine (CNN.out _).mono ?_
          rintro en w8 ⟨rfl, q8, rfl⟩
          go_wp2_with fail
          refine (CMy.out _).mono ?_
          rintro en w9 ⟨rfl, q9, rfl⟩
          have H5 := H4.drop.drop.drewN (q8 + q9)
          clear H4 CNN CMy htop
          go_wp2_with fail
          refine (CLv.out _ _ H5).mono ?_
          rintro en w10 ⟨rfl, H6⟩
          go_wp2_with fail
          go_ret
          exact ⟨rfl, HBL.out _ _ H6⟩
      · have CNw := Lib.hid fun w' (h : Holds E w' (modH m M :: base w :: [])) => hNew F.out (by omega) hmay h
        have d1 : decide ((12288 : Int) < (top : Int)) = false := by simp; omega
        have hbs2 : bs + size ≤ 12288 := by omega
        clear htop hhi hmay hm1 hm2 hm3 hm4 hm5 hsz0 hsz1 F
        go_wp2_with fail
        refine (CNw.out _ (H3.drewN q6)).mono ?_
        rintro en w7 ⟨h, rfl, H4⟩
        clear CNw H3
        go_wp2_with fail
        refine (CNN.out _).mono ?_
        rintro en w8 ⟨rfl, q8, rfl⟩
        go_wp2_with fail
        refine (CMy.out _).mono ?_
        rintro en w9 ⟨rfl, q9, rfl⟩
        have H5 := H4.drewN (q8 + q9)
        clear H4 CNN CMy
        have H6 : Holds E (((w7.drewN (q8 + q9))).alloc (.cells #[.int .i64 0, .int .i64 size, .bool false] 60)) (plS h m bs size 3 (.slice (some ⟨(w7.drewN (q8 + q9)).heap.size, 0, none⟩) 1 1) (.slice none 0 0) [⟨0, size, false⟩] [] w) := by
          have h1 := row.made (e := 60) (size := 3) (cap := 1) (n := 1) (xs := [Value.int .i64 0, .int .i64 size, .bool false]) (H5.alloc (.cells #[.int .i64 0, .int .i64 size, .bool false] 60)) (Nat.le_refl _) (by decide) rfl rfl
          exact (row.nil 3 1 h1).swap
        have HIN : Hid (∀ w' xv tv l T, Holds E w' (plS h m bs size 3 xv tv l T w) → Lay 0 l size) := Lib.hid fun w' xv tv l T h' => heapA_lay (h'.re 4 [2])
        clear H5
        go_wp2_with fail
        go_loopw [19, 20, 21] (fun x t i wr => ∃ (xv tv : Value) (k : Nat) (l : List BlkS) (T : List Nat), xv = x ∧ tv = t ∧ k ≤ n ∧ i = .int .i64 (k : Nat) ∧ T.length ≤ k ∧ Hid (∀ y ∈ T, y ≤ 70000) ∧ Holds E wr (plS h m bs size 3 xv tv l T w)) (fun _ _ i _ => n - (Go.RowKit.intOf i).toNat)
        case atStart => exact ⟨_, _, 0, _, [], rfl, rfl, by omega, rfl, by simp, Lib.hid (by simp), H6⟩
        case round =>
          clear H6
          obtain ⟨xv, tv, k, l, T, rfl, rfl, hk, rfl, hTl, HTB, HX⟩ := hrel
          have hlay := HIN.out _ _ _ _ _ HX
          have hrb := lay_rb hlay hs6
          by_cases hlt : k < n
          · have hr1 := HR.out _ _ (HX.re 4 [3])
            obtain ⟨ag, ao, had, hag, hac⟩ := flat_at hr1 hzl k 0 hlt (by omega)
            subst had
            have c0 := hac 0 (by omega)
            have c1 := hac 1 (by omega)
            have b0 := getD_bd hzb (k * 2 + 0)
            have b1 := getD_bd hzb (k * 2 + 1)
            generalize zs.getD (k * 2 + 0) 0 = kd at *
            generalize zs.getD (k * 2 + 1) 0 = nn at *
            obtain ⟨b01, b02⟩ := b0
            obtain ⟨b11, b12⟩ := b1
            simp only [Nat.add_zero] at c0
            have c1' : wr.cell? ⟨ag, ao + k * 2 + 1, none⟩ = some (.int .i64 nn) := by rw [Nat.add_assoc]; exact c1
            have hki : (k : Int) < (n : Int) := by omega
            clear hac hr1 c1
            unfold plS at HX
            by_cases hkd : kd < 2
            · have dk : decide (kd < 2) = true := by simp; exact hkd
              by_cases hbad : nn < 1 ∨ 65528 < nn
              · have CB := Lib.hid fun w' => hpAllocBad (w := w') (h := h) nn hbad
                have CA : Hid (∀ w', Holds E w' (xRow xv l :: row tv 3 1 T.length (ints (nats T)) :: heapA h m bs size 3 l :: base w :: []) → Calls Try.prog 21 #[xv, .int .i64 nn] w' (RetEx E (fun x : Value × Int => .tuple #[x.1, .int .i64 x.2]) (fun x => xRow xv l :: row tv 3 1 T.length (ints (nats T)) :: heapA h m bs size 3 l :: base w :: []))) := Lib.hid fun w' h' => by
                  rcases fits_cases nn l with hno | ⟨i, b, hi, h0, hf⟩
                  · exact (refA_no hrb nn hno h').mono fun _ _ ⟨g1, g2⟩ => ⟨(_, _), g1, g2⟩
                  · exact (refA_yes hrb nn i b hi h0 hf h').mono fun _ _ ⟨v', g1, g2⟩ => ⟨(_, _), g1, g2.drop⟩
                clear hlay hrb hkd
                rcases hbad with hb1 | hb1
                · have d3 : decide (nn < 1) = true := decide_eq_true hb1
                  clear hb1
                  go_wp2_with fail
                  refine (CA.out _ HX).mono ?_
                  rintro en w2 ⟨⟨yv, yi⟩, rfl, H2⟩
                  clear CA
                  go_wp2_with fail
                  refine (CB.out _).mono ?_
                  rintro en w3 ⟨rfl, q3, rfl⟩
                  have H4 : Hid (Holds E (w2.drewN q3) (plS h m bs size 3 xv tv l T w)) := Lib.hid (H2.drewN q3)
                  clear CB H2 HX
                  go_wp2_with fail
                  go_roundw
                  case rel => exact ⟨_, _, k + 1, l, T, rfl, rfl, by omega, by go_num, by omega, HTB, H4.out⟩
                  case measure => simp [Go.RowKit.intOf]; omega
                · have d3 : decide (nn < 1) = false := decide_eq_false (by omega)
                  have d4 : decide (65528 < nn) = true := decide_eq_true hb1
                  clear hb1
                  go_wp2_with fail
                  refine (CA.out _ HX).mono ?_
                  rintro en w2 ⟨⟨yv, yi⟩, rfl, H2⟩
                  clear CA
                  go_wp2_with fail
                  refine (CB.out _).mono ?_
                  rintro en w3 ⟨rfl, q3, rfl⟩
                  have H4 : Hid (Holds E (w2.drewN q3) (plS h m bs size 3 xv tv l T w)) := Lib.hid (H2.drewN q3)
                  clear CB H2 HX
                  go_wp2_with fail
                  go_roundw
                  case rel => exact ⟨_, _, k + 1, l, T, rfl, rfl, by omega, by go_num, by omega, HTB, H4.out⟩
                  case measure => simp [Go.RowKit.intOf]; omega
              · obtain ⟨nn, rfl⟩ : ∃ q : Nat, nn = q := ⟨nn.toNat, by omega⟩
                have d3 : decide ((nn : Int) < 1) = false := by simp; omega
                have d4 : decide ((65528 : Int) < (nn : Int)) = false := by simp; omega
                obtain ⟨AS1, AS2⟩ := alloc_same hlay (n := nn) (by omega)
                have CB := Lib.hid fun w' X (h' : Holds E w' (heapA h m bs size 3 l :: X)) => hAlloc nn (by omega) (by omega) h'
                rcases fits_cases nn l with hno | ⟨i, b, hi, h0, hf⟩
                · obtain ⟨g1, g2⟩ := AS1 hno
                  rw [g1, g2] at CB
                  unfold allocV at CB
                  have CA := Lib.hid (refA_no hrb nn hno HX)
                  clear AS1 AS2 g1 g2 hno hlay hrb hkd HX
                  go_wp2_with fail
                  refine CA.out.mono ?_
                  rintro en w2 ⟨rfl, H2⟩
                  clear CA
                  go_wp2_with fail
                  refine (CB.out _ _ (H2.re 4 [2, 0, 1, 3])).mono ?_
                  rintro en w3 ⟨rfl, H3⟩
                  have H4 : Holds E w3 (xRow xv l :: row tv 3 1 T.length (ints (nats T)) :: heapA h m bs size 3 l :: base w :: []) := H3.re 4 [1, 2, 0, 3]
                  clear CB H2 H3
                  have HTL : T.length ≤ k + 1 := by omega
                  have HSM := Lib.hid ((H4).re 3 [2, 0, 1])
                  go_wp2_with fail
                  refine (hSame (xv) HSM.out).mono ?_
                  rintro en w8 ⟨rfl, H8⟩
                  have H9 : Hid (Holds E w8 (plS h m bs size 3 xv _ l T w)) := Lib.hid (H8.re 3 [1, 2, 0])
                  clear H8 HSM
                  go_wp2_with fail
                  go_roundw
                  case rel => exact ⟨_, _, k + 1, l, T, rfl, rfl, by omega, by go_num, HTL, HTB, H9.out⟩
                  case measure => simp [Go.RowKit.intOf]; omega
                · obtain ⟨g1, g2⟩ := AS2 i b hi h0 hf
                  have hbo := (hlay.mem (List.mem_of_getElem? hi)).2.1
                  rw [g1, g2] at CB
                  unfold allocV at CB
                  dsimp only at CB
                  have CA := Lib.hid (refA_yes hrb nn i b hi h0 hf HX)
                  obtain ⟨l2, hl2⟩ : ∃ l2, takeR l i b (szOf nn) = l2 := ⟨_, rfl⟩
                  rw [hl2] at CA CB
                  obtain ⟨want, hw⟩ : ∃ want, b.o + 8 = want := ⟨_, rfl⟩
                  obtain ⟨got, hg⟩ : ∃ got, bs + want = got := ⟨_, rfl⟩
                  rw [hw] at CA
                  rw [show bs + b.o + 8 = got by omega] at CB
                  have i2 : (bs : Int) + (want : Int) = (got : Int) := by omega
                  have wb : want ≤ 65544 := by omega
                  have gb : got ≤ 78000 := by omega
                  clear AS1 AS2 g1 g2 hi h0 hf hlay hrb hkd HX hl2 hw hg hbo
                  go_wp2_with fail
                  refine CA.out.mono ?_
                  rintro en w2 ⟨yv, rfl, H2⟩
                  clear CA
                  go_wp2_with fail
                  refine (CB.out _ _ (H2.re 5 [3, 0, 2, 4])).mono ?_
                  rintro en w3 ⟨rfl, H3⟩
                  have H4 : Holds E w3 (row tv 3 1 T.length (ints (nats T)) :: xRow yv l2 :: heapA h m bs size 3 l2 :: base w :: []) := H3.re 4 [2, 1, 0, 3]
                  clear CB H2 H3
                  have HA : Holds E (w3.alloc (.cells #[.int .i64 want] 3)) (row tv 3 1 T.length (ints (nats T)) :: xRow yv l2 :: heapA h m bs size 3 l2 :: base w :: []) := (H4.alloc _).drop
                  have HRL := reads_lits w3 [.int .i64 want] 3 1 1 rfl
                  clear H4
                  go_wp2_with (at_builtin; refine wpList_append_sl rfl (.tmp 162) _ _ rfl 3 1 8 elem_int tv T.length (ints (nats T)) rfl HA (.slice (some ⟨w3.heap.size, 0, none⟩) 1 1) 1 [.int .i64 want] rfl HRL (by simp [Value.oneCell']) ?_ ?_ ?_)
                  · unfold maxLen; omega
                  · omega
                  intro v5 w5 H5
                  have HTB2 : Hid (∀ y ∈ T ++ [want], y ≤ 70000) := Lib.hid (by
                    intro y hy
                    rcases List.mem_append.1 hy with hy | hy
                    · exact HTB.out y hy
                    · have : y = want := by simpa using hy
                      omega)
                  have H6 : Holds E w5 (xRow yv l2 :: row v5 3 1 (T ++ [want]).length (ints (nats (T ++ [want]))) :: heapA h m bs size 3 l2 :: base w :: []) := by
                    rw [nats_append, ints_append, List.length_append, List.length_singleton]
                    exact H5.swap
                  clear HA HRL H5 HTB
                  have HTB := HTB2
                  have HTL : (T ++ [want]).length ≤ k + 1 := by rw [List.length_append, List.length_singleton]; omega
                  have HSM := Lib.hid ((H6).re 3 [2, 0, 1])
                  go_wp2_with fail
                  refine (hSame (yv) HSM.out).mono ?_
                  rintro en w8 ⟨rfl, H8⟩
                  have H9 : Hid (Holds E w8 (plS h m bs size 3 yv _ l2 (T ++ [want]) w)) := Lib.hid (H8.re 3 [1, 2, 0])
                  clear H8 HSM
                  go_wp2_with fail
                  go_roundw
                  case rel => exact ⟨_, _, k + 1, l2, (T ++ [want]), rfl, rfl, by omega, by go_num, HTL, HTB, H9.out⟩
                  case measure => simp [Go.RowKit.intOf]; omega
            · have dk : decide (kd < 2) = false := decide_eq_false hkd
              obtain ⟨ta, tc, rfl⟩ := row_shape HX.swap
              obtain ⟨nt, hnt⟩ : ∃ nt, T.length = nt := ⟨_, rfl⟩
              have HNT := Lib.hid hnt
              rw [hnt] at HX hTl ⊢
              by_cases hin : 0 ≤ nn ∧ nn < (nt : Int)
              · obtain ⟨ti, rfl⟩ : ∃ q : Nat, nn = q := ⟨nn.toNat, by omega⟩
                obtain ⟨t, ht⟩ : ∃ t, T[ti]? = some t := ⟨_, List.getElem?_eq_getElem (by omega)⟩
                have htb := HTB.out t (List.mem_of_getElem? ht)
                obtain ⟨tg, to', rfl, htr⟩ := (row.reads HX.swap).at (by omega)
                have e0 : wr.cell? ⟨tg, to' + ti, none⟩ = some (.int .i64 (t : Int)) := htr ti _ (ints_get (by unfold nats; rw [List.getElem?_map, ht]; rfl))
                obtain ⟨z, hz⟩ : ∃ z : Int, (t : Int) = z := ⟨_, rfl⟩
                rw [hz] at e0
                have zb0 : -9223372036854775808 ≤ z := by omega
                have zb1 : z ≤ 9223372036854775807 := by omega
                have d5 : decide ((0 : Int) ≤ (ti : Int)) = true := by simp
                have d6 : decide ((ti : Int) < (nt : Int)) = true := decide_eq_true hin.2
                have til : ti < nt := by omega
                clear hkd htr ht hz htb hin hnt
                obtain ⟨z1, hz1⟩ : ∃ z1 : Nat, IntKind.u64.wrap z = (z1 : Int) := ⟨(z % 18446744073709551616).toNat, by rw [IntKind.wrap_u64]; omega⟩
                have hz1b : (z1 : Int) = z % 18446744073709551616 := by rw [← hz1, IntKind.wrap_u64]
                obtain ⟨a, ha⟩ : ∃ a : Nat, IntKind.u64.wrap ((bs : Int) + (z1 : Int)) = (a : Int) := ⟨(((bs : Int) + (z1 : Int)) % 18446744073709551616).toNat, by rw [IntKind.wrap_u64]; omega⟩
                have hab1 : (a : Int) = ((bs : Int) + (z1 : Int)) % 18446744073709551616 := by rw [← ha, IntKind.wrap_u64]
                have hza : ((bs : Int) + z) % 18446744073709551616 = (a : Int) := by omega
                have ha64 : a < 18446744073709551616 := by omega
                have FS := free_same (bs := bs) (a := a) (z := z) hrb hza (by omega) zb0 zb1
                obtain ⟨FS1, FS2, FS3⟩ := FS
                have CF0 := Lib.hid fun w' X h' => hFree (e := E) (w := w') (R := X) (h := h) (m := m) (n := 3) (base := bs) (size := size) (l := l) a ha64 h'
                clear hz1b hab1 hza
                rcases free_cases hlay z with hno | ⟨ai, b, hai, hab, hoth⟩
                · obtain ⟨g1, g2⟩ := FS2 hno
                  have CRF := Lib.hid (refF_no (e := E) hrb z hno HX)
                  rw [g1, g2] at CF0
                  clear FS1 FS2 FS3 g1 g2 hno HX hlay hrb
                  go_wp2_with fail
                  refine CRF.out.mono ?_
                  rintro en w2 ⟨rfl, H2⟩
                  clear CRF
                  go_wp2_with fail
                  refine (CF0.out _ _ (H2.re 4 [2, 0, 1, 3])).mono ?_
                  rintro en w3 ⟨rfl, H3⟩
                  have H4 : Holds E w3 (row (.slice (some ⟨tg, to', none⟩) nt tc) 3 1 nt (ints (nats T)) :: xRow xv l :: heapA h m bs size 3 l :: base w :: []) := H3.re 4 [2, 1, 0, 3]
                  clear CF0 H2 H3
                  go_wp2_with fail
                  generalize (some (⟨tg, to', none⟩ : Addr)) = ta at *
                  go_loopw [30, 31] (fun lf j wr2 => ∃ (q : Nat) (F : List Nat), q ≤ nt ∧ j = .int .i64 (q : Nat) ∧ Hid (F = (T.take q).filter (fun t : Nat => decide ((t : Int) ≠ z))) ∧ F.length ≤ q ∧ Holds E wr2 (row lf 3 1 F.length (ints (nats F)) :: row (.slice ta nt tc) 3 1 nt (ints (nats T)) :: xRow xv l :: heapA h m bs size 3 l :: base w :: [])) (fun _ j _ => nt - (Go.RowKit.intOf j).toNat)
                  case atStart => exact ⟨0, [], by omega, rfl, Lib.hid (by simp), by simp, row.nil _ 1 H4⟩
                  case round =>
                    clear H4
                    rename_i wro _ _ _ _ _ _ _ _ _ _
                    obtain ⟨q, F, hq, rfl, hF, hFl, HY⟩ := hrel
                    by_cases hqn : q < nt
                    · obtain ⟨t, ht⟩ : ∃ t, T[q]? = some t := ⟨_, List.getElem?_eq_getElem (by rw [HNT.out]; exact hqn)⟩
                      have htb := HTB.out t (List.mem_of_getElem? ht)
                      obtain ⟨tg, to', rfl, htr⟩ := (row.reads HY.swap).at (by omega)
                      have e0 : wr.cell? ⟨tg, to' + q, none⟩ = some (.int .i64 (t : Int)) := htr q _ (ints_get (by unfold nats; rw [List.getElem?_map, ht]; rfl))
                      have hqi : (q : Int) < (nt : Int) := by omega
                      by_cases htz : (t : Int) = z
                      · have e1 : ((t : Int) != z) = false := by simp [htz]
                        have HF2 : Hid (F = (T.take (q + 1)).filter (fun t : Nat => decide ((t : Int) ≠ z))) := Lib.hid (by rw [List.take_add_one, ht, List.filter_append, ← hF.out]; simp [htz])
                        have HYY := Lib.hid HY
                        clear htr ht htz hF HY
                        go_wp2_with fail
                        go_roundw
                        case rel => exact ⟨q + 1, F, by omega, by go_num, HF2, by omega, HYY.out⟩
                        case measure => simp [Go.RowKit.intOf]; omega
                      · have e1 : ((t : Int) != z) = true := by simp [htz]
                        have HF2 : Hid (F ++ [t] = (T.take (q + 1)).filter (fun t : Nat => decide ((t : Int) ≠ z))) := Lib.hid (by rw [List.take_add_one, ht, List.filter_append, ← hF.out]; simp [htz])
                        have HA : Holds E (wr.alloc (.cells #[.int .i64 t] 3)) (row _ 3 1 F.length (ints (nats F)) :: row (.slice (some ⟨tg, to', none⟩) nt tc) 3 1 nt (ints (nats T)) :: xRow xv l :: heapA h m bs size 3 l :: base w :: []) := (HY.alloc _).drop
                        have HRL := reads_lits wr [.int .i64 t] 3 1 1 rfl
                        clear htr ht htz hF HY
                        go_wp2_with (at_builtin; refine wpList_append_sl rfl (.tmp 238) _ _ rfl 3 1 8 elem_int _ F.length (ints (nats F)) rfl HA (.slice (some ⟨wr.heap.size, 0, none⟩) 1 1) 1 [.int .i64 t] rfl HRL (by simp [Value.oneCell']) ?_ ?_ ?_)
                        · unfold maxLen; omega
                        · omega
                        intro v5 w5 H5
                        have H6 : Hid (Holds E w5 (row v5 3 1 (F ++ [t]).length (ints (nats (F ++ [t]))) :: row (.slice (some ⟨tg, to', none⟩) nt tc) 3 1 nt (ints (nats T)) :: xRow xv l :: heapA h m bs size 3 l :: base w :: [])) := Lib.hid (by
                          rw [nats_append, ints_append, List.length_append, List.length_singleton]
                          exact H5)
                        have hfl2 : (F ++ [t]).length ≤ q + 1 := by rw [List.length_append, List.length_singleton]; omega
                        clear HA HRL H5
                        go_wp2_with fail
                        go_roundw
                        case rel => exact ⟨q + 1, F ++ [t], by omega, by go_num, HF2, hfl2, H6.out⟩
                        case measure => simp [Go.RowKit.intOf]; omega
                    · have hqi : ¬ (q : Int) < (nt : Int) := by omega
                      have HTB2 : Hid (∀ y ∈ F, y ≤ 70000) := Lib.hid (by
                        intro y hy
                        rw [hF.out] at hy
                        exact HTB.out y (List.mem_of_mem_take (List.mem_filter.1 hy).1))
                      have HTL : F.length ≤ k + 1 := by omega
                      have HH : Holds E wr (xRow xv l :: row _ 3 1 F.length (ints (nats F)) :: heapA h m bs size 3 l :: base w :: []) := HY.re 5 [2, 0, 3, 4]
                      clear HTB hF HY
                      have HTB := HTB2
                      have HSM := Lib.hid ((HH).re 3 [2, 0, 1])
                      go_wp2_with fail
                      refine (hSame (xv) HSM.out).mono ?_
                      rintro en w8 ⟨rfl, H8⟩
                      have H9 : Hid (Holds E w8 (plS h m bs size 3 xv _ l F w)) := Lib.hid (H8.re 3 [1, 2, 0])
                      clear H8 HSM
                      go_wp2_with fail
                      go_roundw
                      case rel => exact ⟨_, _, k + 1, l, F, rfl, rfl, by omega, by go_num, HTL, HTB, H9.out⟩
                      case measure => simp [Go.RowKit.intOf]; omega
                · have g1 := FS3 ⟨ai, b, hai, hab⟩
                  have CRF := Lib.hid (refF_yes (e := E) hrb z ai b hai hab hoth HX)
                  rw [g1, FS1] at CF0
                  obtain ⟨l2, hl2⟩ : ∃ l2, freeL (isR z) l = l2 := ⟨_, rfl⟩
                  rw [hl2] at CF0 CRF
                  clear FS1 FS2 FS3 g1 hai hab hoth HX hlay hrb hl2
                  go_wp2_with fail
                  refine CRF.out.mono ?_
                  rintro en w2 ⟨yv, rfl, H2⟩
                  clear CRF
                  go_wp2_with fail
                  refine (CF0.out _ _ (H2.re 4 [2, 0, 1, 3])).mono ?_
                  rintro en w3 ⟨rfl, H3⟩
                  have H4 : Holds E w3 (row (.slice (some ⟨tg, to', none⟩) nt tc) 3 1 nt (ints (nats T)) :: xRow yv l2 :: heapA h m bs size 3 l2 :: base w :: []) := H3.re 4 [2, 1, 0, 3]
                  clear CF0 H2 H3
                  go_wp2_with fail
                  generalize (some (⟨tg, to', none⟩ : Addr)) = ta at *
                  go_loopw [30, 31] (fun lf j wr2 => ∃ (q : Nat) (F : List Nat), q ≤ nt ∧ j = .int .i64 (q : Nat) ∧ Hid (F = (T.take q).filter (fun t : Nat => decide ((t : Int) ≠ z))) ∧ F.length ≤ q ∧ Holds E wr2 (row lf 3 1 F.length (ints (nats F)) :: row (.slice ta nt tc) 3 1 nt (ints (nats T)) :: xRow yv l2 :: heapA h m bs size 3 l2 :: base w :: [])) (fun _ j _ => nt - (Go.RowKit.intOf j).toNat)
                  case atStart => exact ⟨0, [], by omega, rfl, Lib.hid (by simp), by simp, row.nil _ 1 H4⟩
                  case round =>
                    clear H4
                    rename_i wro _ _ _ _ _ _ _ _ _ _
                    obtain ⟨q, F, hq, rfl, hF, hFl, HY⟩ := hrel
                    by_cases hqn : q < nt
                    · obtain ⟨t, ht⟩ : ∃ t, T[q]? = some t := ⟨_, List.getElem?_eq_getElem (by rw [HNT.out]; exact hqn)⟩
                      have htb := HTB.out t (List.mem_of_getElem? ht)
                      obtain ⟨tg, to', rfl, htr⟩ := (row.reads HY.swap).at (by omega)
                      have e0 : wr.cell? ⟨tg, to' + q, none⟩ = some (.int .i64 (t : Int)) := htr q _ (ints_get (by unfold nats; rw [List.getElem?_map, ht]; rfl))
                      have hqi : (q : Int) < (nt : Int) := by omega
                      by_cases htz : (t : Int) = z
                      · have e1 : ((t : Int) != z) = false := by simp [htz]
                        have HF2 : Hid (F = (T.take (q + 1)).filter (fun t : Nat => decide ((t : Int) ≠ z))) := Lib.hid (by rw [List.take_add_one, ht, List.filter_append, ← hF.out]; simp [htz])
                        have HYY := Lib.hid HY
                        clear htr ht htz hF HY
                        go_wp2_with fail
                        go_roundw
                        case rel => exact ⟨q + 1, F, by omega, by go_num, HF2, by omega, HYY.out⟩
                        case measure => simp [Go.RowKit.intOf]; omega
                      · have e1 : ((t : Int) != z) = true := by simp [htz]
                        have HF2 : Hid (F ++ [t] = (T.take (q + 1)).filter (fun t : Nat => decide ((t : Int) ≠ z))) := Lib.hid (by rw [List.take_add_one, ht, List.filter_append, ← hF.out]; simp [htz])
                        have HA : Holds E (wr.alloc (.cells #[.int .i64 t] 3)) (row _ 3 1 F.length (ints (nats F)) :: row (.slice (some ⟨tg, to', none⟩) nt tc) 3 1 nt (ints (nats T)) :: xRow yv l2 :: heapA h m bs size 3 l2 :: base w :: []) := (HY.alloc _).drop
                        have HRL := reads_lits wr [.int .i64 t] 3 1 1 rfl
                        clear htr ht htz hF HY
                        go_wp2_with (at_builtin; refine wpList_append_sl rfl (.tmp 238) _ _ rfl 3 1 8 elem_int _ F.length (ints (nats F)) rfl HA (.slice (some ⟨wr.heap.size, 0, none⟩) 1 1) 1 [.int .i64 t] rfl HRL (by simp [Value.oneCell']) ?_ ?_ ?_)
                        · unfold maxLen; omega
                        · omega
                        intro v5 w5 H5
                        have H6 : Hid (Holds E w5 (row v5 3 1 (F ++ [t]).length (ints (nats (F ++ [t]))) :: row (.slice (some ⟨tg, to', none⟩) nt tc) 3 1 nt (ints (nats T)) :: xRow yv l2 :: heapA h m bs size 3 l2 :: base w :: [])) := Lib.hid (by
                          rw [nats_append, ints_append, List.length_append, List.length_singleton]
                          exact H5)
                        have hfl2 : (F ++ [t]).length ≤ q + 1 := by rw [List.length_append, List.length_singleton]; omega
                        clear HA HRL H5
                        go_wp2_with fail
                        go_roundw
                        case rel => exact ⟨q + 1, F ++ [t], by omega, by go_num, HF2, hfl2, H6.out⟩
                        case measure => simp [Go.RowKit.intOf]; omega
                    · have hqi : ¬ (q : Int) < (nt : Int) := by omega
                      have HTB2 : Hid (∀ y ∈ F, y ≤ 70000) := Lib.hid (by
                        intro y hy
                        rw [hF.out] at hy
                        exact HTB.out y (List.mem_of_mem_take (List.mem_filter.1 hy).1))
                      have HTL : F.length ≤ k + 1 := by omega
                      have HH : Holds E wr (xRow yv l2 :: row _ 3 1 F.length (ints (nats F)) :: heapA h m bs size 3 l2 :: base w :: []) := HY.re 5 [2, 0, 3, 4]
                      clear HTB hF HY
                      have HTB := HTB2
                      have HSM := Lib.hid ((HH).re 3 [2, 0, 1])
                      go_wp2_with fail
                      refine (hSame (yv) HSM.out).mono ?_
                      rintro en w8 ⟨rfl, H8⟩
                      have H9 : Hid (Holds E w8 (plS h m bs size 3 yv _ l2 F w)) := Lib.hid (H8.re 3 [1, 2, 0])
                      clear H8 HSM
                      go_wp2_with fail
                      go_roundw
                      case rel => exact ⟨_, _, k + 1, l2, F, rfl, rfl, by omega, by go_num, HTL, HTB, H9.out⟩
                      case measure => simp [Go.RowKit.intOf]; omega
              · obtain ⟨z, hz⟩ : ∃ z : Int, nn = z := ⟨_, rfl⟩
                have d7 : (decide (0 ≤ z) = true ∧ decide (z < (nt : Int)) = false) ∨ decide (0 ≤ z) = false := by
                  subst hz
                  by_cases h : 0 ≤ nn
                  · exact .inl ⟨decide_eq_true h, decide_eq_false fun h' => hin ⟨h, h'⟩⟩
                  · exact .inr (decide_eq_false h)
                have zb0 : -9223372036854775808 ≤ z := by omega
                have zb1 : z ≤ 9223372036854775807 := by omega
                rw [hz] at c1'
                clear hkd hin hnt hz b11 b12
                clear nn
                rcases d7 with ⟨d5, d6⟩ | d5
                · obtain ⟨z1, hz1⟩ : ∃ z1 : Nat, IntKind.u64.wrap z = (z1 : Int) := ⟨(z % 18446744073709551616).toNat, by rw [IntKind.wrap_u64]; omega⟩
                  have hz1b : (z1 : Int) = z % 18446744073709551616 := by rw [← hz1, IntKind.wrap_u64]
                  obtain ⟨a, ha⟩ : ∃ a : Nat, IntKind.u64.wrap ((bs : Int) + (z1 : Int)) = (a : Int) := ⟨(((bs : Int) + (z1 : Int)) % 18446744073709551616).toNat, by rw [IntKind.wrap_u64]; omega⟩
                  have hab1 : (a : Int) = ((bs : Int) + (z1 : Int)) % 18446744073709551616 := by rw [← ha, IntKind.wrap_u64]
                  have hza : ((bs : Int) + z) % 18446744073709551616 = (a : Int) := by omega
                  have ha64 : a < 18446744073709551616 := by omega
                  have FS := free_same (bs := bs) (a := a) (z := z) hrb hza (by omega) zb0 zb1
                  obtain ⟨FS1, FS2, FS3⟩ := FS
                  have CF0 := Lib.hid fun w' X h' => hFree (e := E) (w := w') (R := X) (h := h) (m := m) (n := 3) (base := bs) (size := size) (l := l) a ha64 h'
                  clear hz1b hab1 hza
                  rcases free_cases hlay z with hno | ⟨ai, b, hai, hab, hoth⟩
                  · obtain ⟨g1, g2⟩ := FS2 hno
                    have CRF := Lib.hid (refF_no (e := E) hrb z hno HX)
                    rw [g1, g2] at CF0
                    clear FS1 FS2 FS3 g1 g2 hno HX hlay hrb
                    go_wp2_with fail
                    refine CRF.out.mono ?_
                    rintro en w2 ⟨rfl, H2⟩
                    clear CRF
                    go_wp2_with fail
                    refine (CF0.out _ _ (H2.re 4 [2, 0, 1, 3])).mono ?_
                    rintro en w3 ⟨rfl, H3⟩
                    have H4 : Holds E w3 (row (.slice ta nt tc) 3 1 nt (ints (nats T)) :: xRow xv l :: heapA h m bs size 3 l :: base w :: []) := H3.re 4 [2, 1, 0, 3]
                    clear CF0 H2 H3
                    go_wp2_with fail
                    skip
                    go_loopw [30, 31] (fun lf j wr2 => ∃ (q : Nat) (F : List Nat), q ≤ nt ∧ j = .int .i64 (q : Nat) ∧ Hid (F = (T.take q).filter (fun t : Nat => decide ((t : Int) ≠ z))) ∧ F.length ≤ q ∧ Holds E wr2 (row lf 3 1 F.length (ints (nats F)) :: row (.slice ta nt tc) 3 1 nt (ints (nats T)) :: xRow xv l :: heapA h m bs size 3 l :: base w :: [])) (fun _ j _ => nt - (Go.RowKit.intOf j).toNat)
                    case atStart => exact ⟨0, [], by omega, rfl, Lib.hid (by simp), by simp, row.nil _ 1 H4⟩
                    case round =>
                      clear H4
                      rename_i wro _ _ _ _ _ _ _ _ _ _
                      obtain ⟨q, F, hq, rfl, hF, hFl, HY⟩ := hrel
                      by_cases hqn : q < nt
                      · obtain ⟨t, ht⟩ : ∃ t, T[q]? = some t := ⟨_, List.getElem?_eq_getElem (by rw [HNT.out]; exact hqn)⟩
                        have htb := HTB.out t (List.mem_of_getElem? ht)
                        obtain ⟨tg, to', rfl, htr⟩ := (row.reads HY.swap).at (by omega)
                        have e0 : wr.cell? ⟨tg, to' + q, none⟩ = some (.int .i64 (t : Int)) := htr q _ (ints_get (by unfold nats; rw [List.getElem?_map, ht]; rfl))
                        have hqi : (q : Int) < (nt : Int) := by omega
                        by_cases htz : (t : Int) = z
                        · have e1 : ((t : Int) != z) = false := by simp [htz]
                          have HF2 : Hid (F = (T.take (q + 1)).filter (fun t : Nat => decide ((t : Int) ≠ z))) := Lib.hid (by rw [List.take_add_one, ht, List.filter_append, ← hF.out]; simp [htz])
                          have HYY := Lib.hid HY
                          clear htr ht htz hF HY
                          go_wp2_with fail
                          go_roundw
                          case rel => exact ⟨q + 1, F, by omega, by go_num, HF2, by omega, HYY.out⟩
                          case measure => simp [Go.RowKit.intOf]; omega
                        · have e1 : ((t : Int) != z) = true := by simp [htz]
                          have HF2 : Hid (F ++ [t] = (T.take (q + 1)).filter (fun t : Nat => decide ((t : Int) ≠ z))) := Lib.hid (by rw [List.take_add_one, ht, List.filter_append, ← hF.out]; simp [htz])
                          have HA : Holds E (wr.alloc (.cells #[.int .i64 t] 3)) (row _ 3 1 F.length (ints (nats F)) :: row (.slice (some ⟨tg, to', none⟩) nt tc) 3 1 nt (ints (nats T)) :: xRow xv l :: heapA h m bs size 3 l :: base w :: []) := (HY.alloc _).drop
                          have HRL := reads_lits wr [.int .i64 t] 3 1 1 rfl
                          clear htr ht htz hF HY
                          go_wp2_with (at_builtin; refine wpList_append_sl rfl (.tmp 238) _ _ rfl 3 1 8 elem_int _ F.length (ints (nats F)) rfl HA (.slice (some ⟨wr.heap.size, 0, none⟩) 1 1) 1 [.int .i64 t] rfl HRL (by simp [Value.oneCell']) ?_ ?_ ?_)
                          · unfold maxLen; omega
                          · omega
                          intro v5 w5 H5
                          have H6 : Hid (Holds E w5 (row v5 3 1 (F ++ [t]).length (ints (nats (F ++ [t]))) :: row (.slice (some ⟨tg, to', none⟩) nt tc) 3 1 nt (ints (nats T)) :: xRow xv l :: heapA h m bs size 3 l :: base w :: [])) := Lib.hid (by
                            rw [nats_append, ints_append, List.length_append, List.length_singleton]
                            exact H5)
                          have hfl2 : (F ++ [t]).length ≤ q + 1 := by rw [List.length_append, List.length_singleton]; omega
                          clear HA HRL H5
                          go_wp2_with fail
                          go_roundw
                          case rel => exact ⟨q + 1, F ++ [t], by omega, by go_num, HF2, hfl2, H6.out⟩
                          case measure => simp [Go.RowKit.intOf]; omega
                      · have hqi : ¬ (q : Int) < (nt : Int) := by omega
                        have HTB2 : Hid (∀ y ∈ F, y ≤ 70000) := Lib.hid (by
                          intro y hy
                          rw [hF.out] at hy
                          exact HTB.out y (List.mem_of_mem_take (List.mem_filter.1 hy).1))
                        have HTL : F.length ≤ k + 1 := by omega
                        have HH : Holds E wr (xRow xv l :: row _ 3 1 F.length (ints (nats F)) :: heapA h m bs size 3 l :: base w :: []) := HY.re 5 [2, 0, 3, 4]
                        clear HTB hF HY
                        have HTB := HTB2
                        have HSM := Lib.hid ((HH).re 3 [2, 0, 1])
                        go_wp2_with fail
                        refine (hSame (xv) HSM.out).mono ?_
                        rintro en w8 ⟨rfl, H8⟩
                        have H9 : Hid (Holds E w8 (plS h m bs size 3 xv _ l F w)) := Lib.hid (H8.re 3 [1, 2, 0])
                        clear H8 HSM
                        go_wp2_with fail
                        go_roundw
                        case rel => exact ⟨_, _, k + 1, l, F, rfl, rfl, by omega, by go_num, HTL, HTB, H9.out⟩
                        case measure => simp [Go.RowKit.intOf]; omega
                  · have g1 := FS3 ⟨ai, b, hai, hab⟩
                    have CRF := Lib.hid (refF_yes (e := E) hrb z ai b hai hab hoth HX)
                    rw [g1, FS1] at CF0
                    obtain ⟨l2, hl2⟩ : ∃ l2, freeL (isR z) l = l2 := ⟨_, rfl⟩
                    rw [hl2] at CF0 CRF
                    clear FS1 FS2 FS3 g1 hai hab hoth HX hlay hrb hl2
                    go_wp2_with fail
                    refine CRF.out.mono ?_
                    rintro en w2 ⟨yv, rfl, H2⟩
                    clear CRF
                    go_wp2_with fail
                    refine (CF0.out _ _ (H2.re 4 [2, 0, 1, 3])).mono ?_
                    rintro en w3 ⟨rfl, H3⟩
                    have H4 : Holds E w3 (row (.slice ta nt tc) 3 1 nt (ints (nats T)) :: xRow yv l2 :: heapA h m bs size 3 l2 :: base w :: []) := H3.re 4 [2, 1, 0, 3]
                    clear CF0 H2 H3
                    go_wp2_with fail
                    skip
                    go_loopw [30, 31] (fun lf j wr2 => ∃ (q : Nat) (F : List Nat), q ≤ nt ∧ j = .int .i64 (q : Nat) ∧ Hid (F = (T.take q).filter (fun t : Nat => decide ((t : Int) ≠ z))) ∧ F.length ≤ q ∧ Holds E wr2 (row lf 3 1 F.length (ints (nats F)) :: row (.slice ta nt tc) 3 1 nt (ints (nats T)) :: xRow yv l2 :: heapA h m bs size 3 l2 :: base w :: [])) (fun _ j _ => nt - (Go.RowKit.intOf j).toNat)
                    case atStart => exact ⟨0, [], by omega, rfl, Lib.hid (by simp), by simp, row.nil _ 1 H4⟩
                    case round =>
                      clear H4
                      rename_i wro _ _ _ _ _ _ _ _ _ _
                      obtain ⟨q, F, hq, rfl, hF, hFl, HY⟩ := hrel
                      by_cases hqn : q < nt
                      · obtain ⟨t, ht⟩ : ∃ t, T[q]? = some t := ⟨_, List.getElem?_eq_getElem (by rw [HNT.out]; exact hqn)⟩
                        have htb := HTB.out t (List.mem_of_getElem? ht)
                        obtain ⟨tg, to', rfl, htr⟩ := (row.reads HY.swap).at (by omega)
                        have e0 : wr.cell? ⟨tg, to' + q, none⟩ = some (.int .i64 (t : Int)) := htr q _ (ints_get (by unfold nats; rw [List.getElem?_map, ht]; rfl))
                        have hqi : (q : Int) < (nt : Int) := by omega
                        by_cases htz : (t : Int) = z
                        · have e1 : ((t : Int) != z) = false := by simp [htz]
                          have HF2 : Hid (F = (T.take (q + 1)).filter (fun t : Nat => decide ((t : Int) ≠ z))) := Lib.hid (by rw [List.take_add_one, ht, List.filter_append, ← hF.out]; simp [htz])
                          have HYY := Lib.hid HY
                          clear htr ht htz hF HY
                          go_wp2_with fail
                          go_roundw
                          case rel => exact ⟨q + 1, F, by omega, by go_num, HF2, by omega, HYY.out⟩
                          case measure => simp [Go.RowKit.intOf]; omega
                        · have e1 : ((t : Int) != z) = true := by simp [htz]
                          have HF2 : Hid (F ++ [t] = (T.take (q + 1)).filter (fun t : Nat => decide ((t : Int) ≠ z))) := Lib.hid (by rw [List.take_add_one, ht, List.filter_append, ← hF.out]; simp [htz])
                          have HA : Holds E (wr.alloc (.cells #[.int .i64 t] 3)) (row _ 3 1 F.length (ints (nats F)) :: row (.slice (some ⟨tg, to', none⟩) nt tc) 3 1 nt (ints (nats T)) :: xRow yv l2 :: heapA h m bs size 3 l2 :: base w :: []) := (HY.alloc _).drop
                          have HRL := reads_lits wr [.int .i64 t] 3 1 1 rfl
                          clear htr ht htz hF HY
                          go_wp2_with (at_builtin; refine wpList_append_sl rfl (.tmp 238) _ _ rfl 3 1 8 elem_int _ F.length (ints (nats F)) rfl HA (.slice (some ⟨wr.heap.size, 0, none⟩) 1 1) 1 [.int .i64 t] rfl HRL (by simp [Value.oneCell']) ?_ ?_ ?_)
                          · unfold maxLen; omega
                          · omega
                          intro v5 w5 H5
                          have H6 : Hid (Holds E w5 (row v5 3 1 (F ++ [t]).length (ints (nats (F ++ [t]))) :: row (.slice (some ⟨tg, to', none⟩) nt tc) 3 1 nt (ints (nats T)) :: xRow yv l2 :: heapA h m bs size 3 l2 :: base w :: [])) := Lib.hid (by
                            rw [nats_append, ints_append, List.length_append, List.length_singleton]
                            exact H5)
                          have hfl2 : (F ++ [t]).length ≤ q + 1 := by rw [List.length_append, List.length_singleton]; omega
                          clear HA HRL H5
                          go_wp2_with fail
                          go_roundw
                          case rel => exact ⟨q + 1, F ++ [t], by omega, by go_num, HF2, hfl2, H6.out⟩
                          case measure => simp [Go.RowKit.intOf]; omega
                      · have hqi : ¬ (q : Int) < (nt : Int) := by omega
                        have HTB2 : Hid (∀ y ∈ F, y ≤ 70000) := Lib.hid (by
                          intro y hy
                          rw [hF.out] at hy
                          exact HTB.out y (List.mem_of_mem_take (List.mem_filter.1 hy).1))
                        have HTL : F.length ≤ k + 1 := by omega
                        have HH : Holds E wr (xRow yv l2 :: row _ 3 1 F.length (ints (nats F)) :: heapA h m bs size 3 l2 :: base w :: []) := HY.re 5 [2, 0, 3, 4]
                        clear HTB hF HY
                        have HTB := HTB2
                        have HSM := Lib.hid ((HH).re 3 [2, 0, 1])
                        go_wp2_with fail
                        refine (hSame (yv) HSM.out).mono ?_
                        rintro en w8 ⟨rfl, H8⟩
                        have H9 : Hid (Holds E w8 (plS h m bs size 3 yv _ l2 F w)) := Lib.hid (H8.re 3 [1, 2, 0])
                        clear H8 HSM
                        go_wp2_with fail
                        go_roundw
                        case rel => exact ⟨_, _, k + 1, l2, F, rfl, rfl, by omega, by go_num, HTL, HTB, H9.out⟩
                        case measure => simp [Go.RowKit.intOf]; omega
                · obtain ⟨z1, hz1⟩ : ∃ z1 : Nat, IntKind.u64.wrap z = (z1 : Int) := ⟨(z % 18446744073709551616).toNat, by rw [IntKind.wrap_u64]; omega⟩
                  have hz1b : (z1 : Int) = z % 18446744073709551616 := by rw [← hz1, IntKind.wrap_u64]
                  obtain ⟨a, ha⟩ : ∃ a : Nat, IntKind.u64.wrap ((bs : Int) + (z1 : Int)) = (a : Int) := ⟨(((bs : Int) + (z1 : Int)) % 18446744073709551616).toNat, by rw [IntKind.wrap_u64]; omega⟩
                  have hab1 : (a : Int) = ((bs : Int) + (z1 : Int)) % 18446744073709551616 := by rw [← ha, IntKind.wrap_u64]
                  have hza : ((bs : Int) + z) % 18446744073709551616 = (a : Int) := by omega
                  have ha64 : a < 18446744073709551616 := by omega
                  have FS := free_same (bs := bs) (a := a) (z := z) hrb hza (by omega) zb0 zb1
                  obtain ⟨FS1, FS2, FS3⟩ := FS
                  have CF0 := Lib.hid fun w' X h' => hFree (e := E) (w := w') (R := X) (h := h) (m := m) (n := 3) (base := bs) (size := size) (l := l) a ha64 h'
                  clear hz1b hab1 hza
                  rcases free_cases hlay z with hno | ⟨ai, b, hai, hab, hoth⟩
                  · obtain ⟨g1, g2⟩ := FS2 hno
                    have CRF := Lib.hid (refF_no (e := E) hrb z hno HX)
                    rw [g1, g2] at CF0
                    clear FS1 FS2 FS3 g1 g2 hno HX hlay hrb
                    go_wp2_with fail
                    refine CRF.out.mono ?_
                    rintro en w2 ⟨rfl, H2⟩
                    clear CRF
                    go_wp2_with fail
                    refine (CF0.out _ _ (H2.re 4 [2, 0, 1, 3])).mono ?_
                    rintro en w3 ⟨rfl, H3⟩
                    have H4 : Holds E w3 (row (.slice ta nt tc) 3 1 nt (ints (nats T)) :: xRow xv l :: heapA h m bs size 3 l :: base w :: []) := H3.re 4 [2, 1, 0, 3]
                    clear CF0 H2 H3
                    go_wp2_with fail
                    skip
                    go_loopw [30, 31] (fun lf j wr2 => ∃ (q : Nat) (F : List Nat), q ≤ nt ∧ j = .int .i64 (q : Nat) ∧ Hid (F = (T.take q).filter (fun t : Nat => decide ((t : Int) ≠ z))) ∧ F.length ≤ q ∧ Holds E wr2 (row lf 3 1 F.length (ints (nats F)) :: row (.slice ta nt tc) 3 1 nt (ints (nats T)) :: xRow xv l :: heapA h m bs size 3 l :: base w :: [])) (fun _ j _ => nt - (Go.RowKit.intOf j).toNat)
                    case atStart => exact ⟨0, [], by omega, rfl, Lib.hid (by simp), by simp, row.nil _ 1 H4⟩
                    case round =>
                      clear H4
                      rename_i wro _ _ _ _ _ _ _ _ _ _
                      obtain ⟨q, F, hq, rfl, hF, hFl, HY⟩ := hrel
                      by_cases hqn : q < nt
                      · obtain ⟨t, ht⟩ : ∃ t, T[q]? = some t := ⟨_, List.getElem?_eq_getElem (by rw [HNT.out]; exact hqn)⟩
                        have htb := HTB.out t (List.mem_of_getElem? ht)
                        obtain ⟨tg, to', rfl, htr⟩ := (row.reads HY.swap).at (by omega)
                        have e0 : wr.cell? ⟨tg, to' + q, none⟩ = some (.int .i64 (t : Int)) := htr q _ (ints_get (by unfold nats; rw [List.getElem?_map, ht]; rfl))
                        have hqi : (q : Int) < (nt : Int) := by omega
                        by_cases htz : (t : Int) = z
                        · have e1 : ((t : Int) != z) = false := by simp [htz]
                          have HF2 : Hid (F = (T.take (q + 1)).filter (fun t : Nat => decide ((t : Int) ≠ z))) := Lib.hid (by rw [List.take_add_one, ht, List.filter_append, ← hF.out]; simp [htz])
                          have HYY := Lib.hid HY
                          clear htr ht htz hF HY
                          go_wp2_with fail
                          go_roundw
                          case rel => exact ⟨q + 1, F, by omega, by go_num, HF2, by omega, HYY.out⟩
                          case measure => simp [Go.RowKit.intOf]; omega
                        · have e1 : ((t : Int) != z) = true := by simp [htz]
                          have HF2 : Hid (F ++ [t] = (T.take (q + 1)).filter (fun t : Nat => decide ((t : Int) ≠ z))) := Lib.hid (by rw [List.take_add_one, ht, List.filter_append, ← hF.out]; simp [htz])
                          have HA : Holds E (wr.alloc (.cells #[.int .i64 t] 3)) (row _ 3 1 F.length (ints (nats F)) :: row (.slice (some ⟨tg, to', none⟩) nt tc) 3 1 nt (ints (nats T)) :: xRow xv l :: heapA h m bs size 3 l :: base w :: []) := (HY.alloc _).drop
                          have HRL := reads_lits wr [.int .i64 t] 3 1 1 rfl
                          clear htr ht htz hF HY
                          go_wp2_with (at_builtin; refine wpList_append_sl rfl (.tmp 238) _ _ rfl 3 1 8 elem_int _ F.length (ints (nats F)) rfl HA (.slice (some ⟨wr.heap.size, 0, none⟩) 1 1) 1 [.int .i64 t] rfl HRL (by simp [Value.oneCell']) ?_ ?_ ?_)
                          · unfold maxLen; omega
                          · omega
                          intro v5 w5 H5
                          have H6 : Hid (Holds E w5 (row v5 3 1 (F ++ [t]).length (ints (nats (F ++ [t]))) :: row (.slice (some ⟨tg, to', none⟩) nt tc) 3 1 nt (ints (nats T)) :: xRow xv l :: heapA h m bs size 3 l :: base w :: [])) := Lib.hid (by
                            rw [nats_append, ints_append, List.length_append, List.length_singleton]
                            exact H5)
                          have hfl2 : (F ++ [t]).length ≤ q + 1 := by rw [List.length_append, List.length_singleton]; omega
                          clear HA HRL H5
                          go_wp2_with fail
                          go_roundw
                          case rel => exact ⟨q + 1, F ++ [t], by omega, by go_num, HF2, hfl2, H6.out⟩
                          case measure => simp [Go.RowKit.intOf]; omega
                      · have hqi : ¬ (q : Int) < (nt : Int) := by omega
                        have HTB2 : Hid (∀ y ∈ F, y ≤ 70000) := Lib.hid (by
                          intro y hy
                          rw [hF.out] at hy
                          exact HTB.out y (List.mem_of_mem_take (List.mem_filter.1 hy).1))
                        have HTL : F.length ≤ k + 1 := by omega
                        have HH : Holds E wr (xRow xv l :: row _ 3 1 F.length (ints (nats F)) :: heapA h m bs size 3 l :: base w :: []) := HY.re 5 [2, 0, 3, 4]
                        clear HTB hF HY
                        have HTB := HTB2
                        have HSM := Lib.hid ((HH).re 3 [2, 0, 1])
                        go_wp2_with fail
                        refine (hSame (xv) HSM.out).mono ?_
                        rintro en w8 ⟨rfl, H8⟩
                        have H9 : Hid (Holds E w8 (plS h m bs size 3 xv _ l F w)) := Lib.hid (H8.re 3 [1, 2, 0])
                        clear H8 HSM
                        go_wp2_with fail
                        go_roundw
                        case rel => exact ⟨_, _, k + 1, l, F, rfl, rfl, by omega, by go_num, HTL, HTB, H9.out⟩
                        case measure => simp [Go.RowKit.intOf]; omega
                  · have g1 := FS3 ⟨ai, b, hai, hab⟩
                    have CRF := Lib.hid (refF_yes (e := E) hrb z ai b hai hab hoth HX)
                    rw [g1, FS1] at CF0
                    obtain ⟨l2, hl2⟩ : ∃ l2, freeL (isR z) l = l2 := ⟨_, rfl⟩
                    rw [hl2] at CF0 CRF
                    clear FS1 FS2 FS3 g1 hai hab hoth HX hlay hrb hl2
                    go_wp2_with fail
                    refine CRF.out.mono ?_
                    rintro en w2 ⟨yv, rfl, H2⟩
                    clear CRF
                    go_wp2_with fail
                    refine (CF0.out _ _ (H2.re 4 [2, 0, 1, 3])).mono ?_
                    rintro en w3 ⟨rfl, H3⟩
                    have H4 : Holds E w3 (row (.slice ta nt tc) 3 1 nt (ints (nats T)) :: xRow yv l2 :: heapA h m bs size 3 l2 :: base w :: []) := H3.re 4 [2, 1, 0, 3]
                    clear CF0 H2 H3
                    go_wp2_with fail
                    skip
                    go_loopw [30, 31] (fun lf j wr2 => ∃ (q : Nat) (F : List Nat), q ≤ nt ∧ j = .int .i64 (q : Nat) ∧ Hid (F = (T.take q).filter (fun t : Nat => decide ((t : Int) ≠ z))) ∧ F.length ≤ q ∧ Holds E wr2 (row lf 3 1 F.length (ints (nats F)) :: row (.slice ta nt tc) 3 1 nt (ints (nats T)) :: xRow yv l2 :: heapA h m bs size 3 l2 :: base w :: [])) (fun _ j _ => nt - (Go.RowKit.intOf j).toNat)
                    case atStart => exact ⟨0, [], by omega, rfl, Lib.hid (by simp), by simp, row.nil _ 1 H4⟩
                    case round =>
                      clear H4
                      rename_i wro _ _ _ _ _ _ _ _ _ _
                      obtain ⟨q, F, hq, rfl, hF, hFl, HY⟩ := hrel
                      by_cases hqn : q < nt
                      · obtain ⟨t, ht⟩ : ∃ t, T[q]? = some t := ⟨_, List.getElem?_eq_getElem (by rw [HNT.out]; exact hqn)⟩
                        have htb := HTB.out t (List.mem_of_getElem? ht)
                        obtain ⟨tg, to', rfl, htr⟩ := (row.reads HY.swap).at (by omega)
                        have e0 : wr.cell? ⟨tg, to' + q, none⟩ = some (.int .i64 (t : Int)) := htr q _ (ints_get (by unfold nats; rw [List.getElem?_map, ht]; rfl))
                        have hqi : (q : Int) < (nt : Int) := by omega
                        by_cases htz : (t : Int) = z
                        · have e1 : ((t : Int) != z) = false := by simp [htz]
                          have HF2 : Hid (F = (T.take (q + 1)).filter (fun t : Nat => decide ((t : Int) ≠ z))) := Lib.hid (by rw [List.take_add_one, ht, List.filter_append, ← hF.out]; simp [htz])
                          have HYY := Lib.hid HY
                          clear htr ht htz hF HY
                          go_wp2_with fail
                          go_roundw
                          case rel => exact ⟨q + 1, F, by omega, by go_num, HF2, by omega, HYY.out⟩
                          case measure => simp [Go.RowKit.intOf]; omega
                        · have e1 : ((t : Int) != z) = true := by simp [htz]
                          have HF2 : Hid (F ++ [t] = (T.take (q + 1)).filter (fun t : Nat => decide ((t : Int) ≠ z))) := Lib.hid (by rw [List.take_add_one, ht, List.filter_append, ← hF.out]; simp [htz])
                          have HA : Holds E (wr.alloc (.cells #[.int .i64 t] 3)) (row _ 3 1 F.length (ints (nats F)) :: row (.slice (some ⟨tg, to', none⟩) nt tc) 3 1 nt (ints (nats T)) :: xRow yv l2 :: heapA h m bs size 3 l2 :: base w :: []) := (HY.alloc _).drop
                          have HRL := reads_lits wr [.int .i64 t] 3 1 1 rfl
                          clear htr ht htz hF HY
                          go_wp2_with (at_builtin; refine wpList_append_sl rfl (.tmp 238) _ _ rfl 3 1 8 elem_int _ F.length (ints (nats F)) rfl HA (.slice (some ⟨wr.heap.size, 0, none⟩) 1 1) 1 [.int .i64 t] rfl HRL (by simp [Value.oneCell']) ?_ ?_ ?_)
                          · unfold maxLen; omega
                          · omega
                          intro v5 w5 H5
                          have H6 : Hid (Holds E w5 (row v5 3 1 (F ++ [t]).length (ints (nats (F ++ [t]))) :: row (.slice (some ⟨tg, to', none⟩) nt tc) 3 1 nt (ints (nats T)) :: xRow yv l2 :: heapA h m bs size 3 l2 :: base w :: [])) := Lib.hid (by
                            rw [nats_append, ints_append, List.length_append, List.length_singleton]
                            exact H5)
                          have hfl2 : (F ++ [t]).length ≤ q + 1 := by rw [List.length_append, List.length_singleton]; omega
                          clear HA HRL H5
                          go_wp2_with fail
                          go_roundw
                          case rel => exact ⟨q + 1, F ++ [t], by omega, by go_num, HF2, hfl2, H6.out⟩
                          case measure => simp [Go.RowKit.intOf]; omega
                      · have hqi : ¬ (q : Int) < (nt : Int) := by omega
                        have HTB2 : Hid (∀ y ∈ F, y ≤ 70000) := Lib.hid (by
                          intro y hy
                          rw [hF.out] at hy
                          exact HTB.out y (List.mem_of_mem_take (List.mem_filter.1 hy).1))
                        have HTL : F.length ≤ k + 1 := by omega
                        have HH : Holds E wr (xRow yv l2 :: row _ 3 1 F.length (ints (nats F)) :: heapA h m bs size 3 l2 :: base w :: []) := HY.re 5 [2, 0, 3, 4]
                        clear HTB hF HY
                        have HTB := HTB2
                        have HSM := Lib.hid ((HH).re 3 [2, 0, 1])
                        go_wp2_with fail
                        refine (hSame (yv) HSM.out).mono ?_
                        rintro en w8 ⟨rfl, H8⟩
                        have H9 : Hid (Holds E w8 (plS h m bs size 3 yv _ l2 F w)) := Lib.hid (H8.re 3 [1, 2, 0])
                        clear H8 HSM
                        go_wp2_with fail
                        go_roundw
                        case rel => exact ⟨_, _, k + 1, l2, F, rfl, rfl, by omega, by go_num, HTL, HTB, H9.out⟩
                        case measure => simp [Go.RowKit.intOf]; omega
          · obtain rfl : n = k := by omega
            have HH := HX
            unfold plS at HH
            have CO := Lib.hid fun w' X (h' : Holds E w' (heapA h m bs size 3 l :: X)) => hOpenAgain (m := m) HMY.out h'
            clear HX hlay hrb
            go_wp2_with fail
            refine (CFl.out _ _).mono ?_
            rintro en w2 ⟨rfl, q2, rfl⟩
            go_wp2_with fail
            refine (CO.out _ _ ((HH.drewN q2).re 4 [2, 0, 1, 3])).mono ?_
            rintro en w3 ⟨g, rfl, H3⟩
            clear CO HH
            go_wp2_with fail
            refine (hSame xv H3).mono ?_
            rintro en w4 ⟨rfl, H4⟩
            have H5 := H4.drop.drop.drop
            clear H3 H4
            go_wp2_with fail
            refine (CLv.out _ _ H5).mono ?_
            rintro en w5 ⟨rfl, H6⟩
            go_wp2_with fail
            go_ret
            exact ⟨rfl, HBL.out _ _ H6⟩
    · have hmf : mayH bs zsz = false := by simpa using hmay
      have CNo := Lib.hid fun w' => hpNewNo (w := w') (m := m) hbs zsz hsz0 hsz1 hmf
      rw [hmf] at CMy
      clear hmay hmf
      go_wp2_with fail
      refine (CNo.out _).mono ?_
      rintro en w7 ⟨rfl, q7, rfl⟩
      go_wp2_with fail
      refine (CNN.out _).mono ?_
      rintro en w8 ⟨rfl, q8, rfl⟩
      go_wp2_with fail
      refine (CMy.out _).mono ?_
      rintro en w9 ⟨rfl, q9, rfl⟩
      have H5 := H3.drop.drewN (q6 + q7 + q8 + q9)
      clear H3 CNo CNN CMy
      go_wp2_with fail
      refine (CLv.out _ _ H5).mono ?_
      rintro en w10 ⟨rfl, H6⟩
      go_wp2_with fail
      go_ret
      exact ⟨rfl, HBL.out _ _ H6⟩
end Go.Proofs.Ytjbphdjheklhbaa
