/-
  Layer 47, HeapOpens: the walk.
-/
import Derived.Test.YtjbphdjheklhbaaHo3
namespace Go.Proofs.Ytjbphdjheklhbaa
open Go.RowKit

set_option maxRecDepth 100000 in
set_option maxHeartbeats 4000000 in
theorem opens_walk (b : List UInt8) (hb64 : b.length ≤ 4611686018427387904) (v : Value) (x : Nat) (hx : x ≤ 255) (w : World) (hr0 : RdB w v b) :
    Calls Try.prog 3 #[v, .int .u8 x] w (fun e w' => e = .returned (.bool true) ∧ Below w.heap.size w w') := by
  have H0 := Holds.start w
  generalize hE : (⟨w.os, w.output, w.tape⟩ : Env) = E at *
  have hbel : ∀ w' A, Holds E w' (base w :: A) → Below w.heap.size w w' := fun w' A h => by subst hE; exact h.below rfl rfl rfl
  have HBL := Lib.hid hbel
  clear hE hbel
  have hr : ∀ w' X, Holds E w' (base w :: X) → RdB w' v b := fun w' X h => Reads.based hr0 h
  have CLv := Lib.hid fun w' X (h : Holds E w' X) => lives47 h
  obtain ⟨ad, c, rfl⟩ := hr0.shape
  have hcap : b.length ≤ c := by
    rcases hr0.2 with ⟨h, h'⟩ | ⟨a', c', h, h', _⟩
    · injection h with h1 h2 h3; omega
    · injection h with h1 h2 h3; omega
  clear hr0
  obtain ⟨len, hlen⟩ : ∃ len, b.length = len := ⟨_, rfl⟩
  have HLEN := Lib.hid hlen
  have HR : Hid (∀ w' X, Holds E w' (base w :: X) → Reads w' (.slice ad len c) 1 len (u8v b)) := Lib.hid fun w' X h => by
    have h2 := hr w' X h
    unfold RdB at h2
    rw [hlen] at h2
    exact h2
  rw [hlen] at hcap hb64 ⊢
  clear hr
  by_cases hlong : 4000 < len
  · have hd : decide ((4000 : Int) < (len : Int)) = true := by simp; omega
    clear HR
    go_enter Try.func3, Try.ntmps3
    go_wp2_with fail
    refine (CLv.out _ _ H0).mono ?_
    rintro en w1 ⟨rfl, H1⟩
    go_wp2_with fail
    go_ret
    exact ⟨rfl, HBL.out _ _ H1⟩
  · have hl4 : len ≤ 4000 := by omega
    have hd : decide ((4000 : Int) < (len : Int)) = false := by simp; omega
    have CM := Lib.hid (apMapped 1 (by omega) H0)
    have CFl := Lib.hid fun w' m => hpFlat (w := w') (m := m)
    have CD : Hid (∀ w' blk m M (i : Nat) (sv : Value), Fl 1 M → Begins M (b.take i) → i < len → (∀ w'', Holds E w'' (base w :: []) → RdB w'' sv ((b.drop i).take 64)) → Holds E w' (modH m M :: pts blk (.cells (OpS.cells ⟨4, 0, 0, i, sv, (b.drop i).take 64⟩).toArray 30 (0, 0)) :: base w :: []) → Calls Try.prog 10 #[.pointer (some ⟨m, 0, none⟩), .slice (some ⟨blk, 0, none⟩) 1 1] w'
      (RetEx E (fun x : Value × List Pg => x.1) (fun x => pur (Fl 1 x.2 ∧ Begins x.2 (b.take (i + 64))) :: modH m x.2 :: base w :: []))) := Lib.hid fun w' blk m M i sv F hB hi hsv h => by
      obtain ⟨e1, F', hB'⟩ := hB.store F (by omega) (by omega)
      refine (modDo1 ⟨4, 0, 0, i, sv, (b.drop i).take 64⟩ (.slice (some ⟨blk, 0, none⟩) 1 1) (fun w'' g => reads_op 1 5 rfl g) (.inr (.inr rfl)) ⟨by show i < _; omega, fun w'' g => hsv _ g.drop, by rw [List.length_take]; omega⟩ h).mono ?_
      rintro en w'' ⟨⟨v, p⟩, rfl, h2⟩
      have e2 : opP M ⟨4, 0, 0, i, sv, (b.drop i).take 64⟩ p = wrb M i ((b.drop i).take 64) := e1
      dsimp only at h2
      rw [e2] at h2
      exact ⟨(v, _), rfl, Holds.mkPur ⟨F', hB'⟩ (h2.re 3 [1])⟩
    clear H0 hlong hlen
    go_enter Try.func3, Try.ntmps3
    go_wp2_with fail
    refine CM.out.mono ?_
    rintro en w1 ⟨⟨m, M⟩, rfl, H1⟩
    have F := H1.purE
    have H2 := H1.drop
    clear H1 CM
    dsimp only at *
    go_wp2_with fail
    go_loopw [6] (fun i wr => ∃ (k : Nat) (M : List Pg), k ≤ len + 64 ∧ i = .int .i64 (k : Nat) ∧ Hid (Fl 1 M ∧ Begins M (b.take k)) ∧ Holds E wr (modH m M :: base w :: [])) (fun i _ => len + 64 - (Go.RowKit.intOf i).toNat)
    case atStart => exact ⟨0, M, by omega, rfl, Lib.hid ⟨F, Begins.zero M⟩, H2⟩
    case round =>
      clear H2 F
      obtain ⟨k, M, hk, rfl, HF, HX⟩ := hrel
      by_cases hlt : k < len
      · obtain ⟨g, o, rfl, _⟩ := (HR.out wr _ HX.swap).at (by omega)
        obtain ⟨mn, hmn⟩ : ∃ mn, min len (k + 64) = mn := ⟨_, rfl⟩
        have hmn2 : mn ≤ len ∧ k < mn ∧ mn ≤ k + 64 := by omega
        obtain ⟨hm1, hm2, hm3⟩ := hmn2
        have HSV : Hid (∀ w'', Holds E w'' (base w :: []) → RdB w'' (.slice (some ⟨g, o + k, none⟩) (mn - k) (c - k)) ((b.drop k).take 64)) := Lib.hid fun w'' h => by
          have h1 := reads_take (k := mn) (HR.out w'' _ h) (by omega)
          have h2 := reads_drop (k := k) h1 (by omega)
          rw [Nat.mul_one, Nat.mul_one, u8v_take, u8v_drop] at h2
          have e1 : ((b.take mn).drop k) = (b.drop k).take 64 := by
            rw [List.drop_take]
            have hl := HLEN.out
            by_cases h64 : k + 64 ≤ len
            · rw [show mn - k = 64 by omega]
            · rw [List.take_of_length_le (by rw [List.length_drop]; omega), List.take_of_length_le (by rw [List.length_drop]; omega)]
          rw [e1] at h2
          unfold RdB
          have e3 : ((b.drop k).take 64).length = mn - k := by rw [List.length_take, List.length_drop, HLEN.out]; omega
          rw [e3]
          exact h2
        have CDk := Lib.hid (fun w' blk h => CD.out w' blk m M k (.slice (some ⟨g, o + k, none⟩) (mn - k) (c - k)) HF.out.1 HF.out.2 hlt HSV.out h)
        have hck : ¬ c = k := by omega
        have HA := (HX.alloc (.cells (OpS.cells ⟨4, 0, 0, k, .slice (some ⟨g, o + k, none⟩) (mn - k) (c - k), (b.drop k).take 64⟩).toArray 30)).swap
        unfold OpS.cells at CDk HA
        have hmI : min (len : Int) ((k : Int) + 64) = (mn : Int) := by omega
        have kI : (k : Int) ≤ (mn : Int) := by omega
        have mI : (mn : Int) ≤ (c : Int) := by omega
        have kI0 : (0 : Int) ≤ (k : Int) := by omega
        obtain ⟨q, hq⟩ : ∃ q, k + 64 = q := ⟨_, rfl⟩
        have iq : (k : Int) + 64 = (q : Int) := by omega
        have qb : q ≤ 5000 := by omega
        have HQ := Lib.hid hq
        clear HX HSV
        by_cases h64 : len ≤ q
        · have hme : mn = len := by omega
          subst hme
          have x1 : (mn : Int) ≤ (q : Int) := by omega
          have x2 : ¬ q < mn := by omega
          clear hmn hq hmI
          go_wp2_with fail
          refine (CDk.out _ _ HA).mono ?_
          rintro en w2 ⟨⟨v, M'⟩, rfl, H2⟩
          have HF2 : Hid (Fl 1 M' ∧ Begins M' (b.take (k + 64))) := Lib.hid H2.purE
          have H3 := Lib.hid H2.drop
          clear H2 HA CDk
          dsimp only at *
          go_wp2_with fail
          go_roundw
          case rel => exact ⟨k + 64, M', by omega, by go_num, HF2, H3.out⟩
          case measure => simp [Go.RowKit.intOf]; omega
        · have hme : mn = q := by omega
          subst hme
          have x1 : ¬ (len : Int) ≤ (mn : Int) := by omega
          have x2 : mn < len := by omega
          clear hmn hq hmI
          go_wp2_with fail
          refine (CDk.out _ _ HA).mono ?_
          rintro en w2 ⟨⟨v, M'⟩, rfl, H2⟩
          have HF2 : Hid (Fl 1 M' ∧ Begins M' (b.take (k + 64))) := Lib.hid H2.purE
          have H3 := Lib.hid H2.drop
          clear H2 HA CDk
          dsimp only at *
          go_wp2_with fail
          go_roundw
          case rel => exact ⟨k + 64, M', by omega, by go_num, HF2, H3.out⟩
          case measure => simp [Go.RowKit.intOf]; omega
      · obtain ⟨F, hB0⟩ := HF.out
        have hB1 : Begins M b := by rw [List.take_of_length_le (by rw [HLEN.out]; omega)] at hB0; exact hB0
        obtain ⟨r, hr⟩ : ∃ r, len % 16 = r := ⟨_, rfl⟩
        have i1 : (len : Int) % 16 = (r : Int) := by omega
        obtain ⟨size, hsize⟩ : ∃ size, len - r = size := ⟨_, rfl⟩
        have i2 : (len : Int) - (r : Int) = (size : Int) := by omega
        have hs16 : size % 16 = 0 ∧ size ≤ 4000 ∧ size ≤ len := by omega
        obtain ⟨hs1, hs2, hs3⟩ := hs16
        have hB := hB1.take size
        have hbl : (b.take size).length = size := by rw [List.length_take, HLEN.out]; omega
        have hrb : r ≤ 15 := by omega
        by_cases hsm : size < 16
        · have hmay : mayH 0 (size : Int) = false := by unfold mayH; simp; omega
          have CO := Lib.hid fun w' => hpOpenNo (w := w') (m := m) (base := 0) (by omega) (size : Int) (by omega) (by omega) hmay
          have dm : decide ((size : Int) < 16) = true := by simp; omega
          clear hB hB0 hB1 hbl HF CD hr hsize hmay F
          go_wp2_with fail
          refine (CFl.out _ _).mono ?_
          rintro en w2 ⟨rfl, q2, rfl⟩
          go_wp2_with fail
          refine (CO.out _).mono ?_
          rintro en w3 ⟨rfl, q3, rfl⟩
          go_wp2_with fail
          refine (CLv.out _ _ (HX.drop.drewN _)).mono ?_
          rintro en w4 ⟨rfl, H5⟩
          go_wp2_with fail
          go_ret
          exact ⟨rfl, HBL.out _ _ H5⟩
        · have hmay : mayH 0 (size : Int) = true := by unfold mayH; simp; omega
          have dm : decide ((size : Int) < 16) = false := by simp; omega
          have hBK : blks M 0 size size 0 = blksB (b.take size) size 0 := by
            have := hB.blks F (by omega) (by omega) (b.take size).length 0 (by omega)
            rw [hbl] at this
            exact this
          have CO : Hid (∀ w', Holds E w' (modH m M :: base w :: []) → Calls Try.prog 11 #[memV m, .int .u64 0, .int .i64 size] w' (RetEx E (fun h : Nat => .tuple #[ptrIf (errOf (blks M 0 size size 0)) h, .int .i64 (errOf (blks M 0 size size 0))]) (fun h => pts h (hpObj m 0 size) :: modH m M :: base w :: []))) := Lib.hid fun w' h => hpOpen (base := 0) (by omega) hmay h
          have CRd : Hid (∀ w' X, (∀ w'', Holds E w'' X → Holds E w'' (base w :: [])) → Holds E w' X → Calls Try.prog 13 #[.slice ad size c] w' (RetEx E (fun x : Value => .tuple #[x, .bool (isOk (blksB (b.take size) size 0))]) (fun x => row x 60 3 (listOf (blksB (b.take size) size 0)).length ((listOf (blksB (b.take size) size 0)).flatMap rcells) :: X))) := Lib.hid fun w' X hX h => by
            have := refRead (b.take size) (by rw [hbl]; exact hs1) (by omega) (.slice ad size c) (fun w'' g => by
              obtain ⟨g0, o0, hg, _⟩ := (HR.out w'' _ (hX _ g)).at (by omega)
              have h2 := HR.out w'' _ (hX _ g)
              rw [hg] at h2 ⊢
              have h3 := reads_take (k := size) h2 (by omega)
              rw [Nat.mul_one, u8v_take] at h3
              unfold RdB
              rw [hbl]
              exact h3) h
            rw [hbl] at this
            exact this
          obtain ⟨res, hres⟩ : ∃ res, blksB (b.take size) size 0 = res := ⟨_, rfl⟩
          have HBK : Hid (blks M 0 size size 0 = res) := Lib.hid (hBK.trans hres)
          rw [hBK, hres] at CO
          rw [hres] at CRd
          have hE3 : ∀ E', res = .error E' → E' = 3 := fun E' h => blksB_err _ _ _ (hres.trans h)
          obtain ⟨g, o, rfl, _⟩ := (HR.out wr _ HX.swap).at (by omega)
          have hki : (size : Int) ≤ (len : Int) := by omega
          have hkc : size ≤ c := by omega
          have hk0 : (0 : Int) ≤ (size : Int) := by omega
          have HFl := Lib.hid F
          clear hB hB0 hB1 hbl HF CD hr hsize hmay F hBK hres HR
          rcases res with E3 | l
          · obtain rfl := hE3 E3 rfl
            replace CO : Hid (∀ w', Holds E w' (modH m M :: base w :: []) → Calls Try.prog 11 #[memV m, .int .u64 0, .int .i64 size] w' (RetEx E (fun _ : Nat => .tuple #[.pointer none, .int .i64 3]) (fun h => pts h (hpObj m 0 size) :: modH m M :: base w :: []))) := Lib.hid fun w' h => CO.out w' h
            simp only [listOf, isOk] at CRd
            clear hE3
            go_wp2_with fail
            refine (CFl.out _ _).mono ?_
            rintro en w2 ⟨rfl, q2, rfl⟩
            go_wp2_with fail
            refine (CO.out _ (HX.drewN q2)).mono ?_
            rintro en w3 ⟨h, rfl, H3⟩
            have H4 := H3.drop.drop
            clear CO HX H3
            go_wp2_with fail
            refine (CRd.out _ _ (fun _ g => g) H4).mono ?_
            rintro en w4 ⟨lv, rfl, H5⟩
            have H6 := H5.drop
            clear CRd H5 H4
            go_wp2_with fail
            refine (CLv.out _ _ H6).mono ?_
            rintro en w5 ⟨rfl, H7⟩
            go_wp2_with fail
            go_ret
            exact ⟨rfl, HBL.out _ _ H7⟩
          · replace CO : Hid (∀ w', Holds E w' (modH m M :: base w :: []) → Calls Try.prog 11 #[memV m, .int .u64 0, .int .i64 size] w' (RetEx E (fun h : Nat => .tuple #[.pointer (some ⟨h, 0, none⟩), .int .i64 0]) (fun h => pts h (hpObj m 0 size) :: modH m M :: base w :: []))) := Lib.hid fun w' h => CO.out w' h
            simp only [listOf, isOk] at CRd
            clear hE3
            obtain ⟨sz2, hsz2⟩ : ∃ sz2, 16 + 16 * x = sz2 := ⟨_, rfl⟩
            have i3 : (16 : Int) * (x : Int) = ((16 * x : Nat) : Int) := by omega
            obtain ⟨x16, hx16⟩ : ∃ x16, 16 * x = x16 := ⟨_, rfl⟩
            rw [hx16] at i3
            have i4 : (16 : Int) + (x16 : Int) = (sz2 : Int) := by omega
            have hm2 : mayH 4096 (sz2 : Int) = true := by unfold mayH; simp; omega
            have CO2 : Hid (∀ w' X, Holds E w' (modH m M :: X) → Calls Try.prog 11 #[memV m, .int .u64 4096, .int .i64 sz2] w' (RetEx E (fun h : Nat => .tuple #[.pointer none, .int .i64 9]) (fun h => pts h (hpObj m 4096 sz2) :: modH m M :: X))) := Lib.hid fun w' X h => by
              have := hpOpen (m := m) (M := M) (base := 4096) (size := sz2) (by omega) hm2 h
              rw [open_high HFl.out sz2 (by omega)] at this
              exact this
            have CS : Hid (∀ w' h v' X, Holds E w' (pts h (hpObj m 0 size) :: modH m M :: row v' 60 3 l.length (l.flatMap rcells) :: X) → Calls Try.prog 14 #[.pointer (some ⟨h, 0, none⟩), .int .u64 0, v'] w' (Ret E (.bool true) (pts h (hpObj m 0 size) :: modH m M :: row v' 60 3 l.length (l.flatMap rcells) :: X))) := Lib.hid fun w' h v' X h' =>
              hpSame (by omega) (by omega) HBK.out v' (fun w'' g => row.reads g) h'
            have x16b : x16 ≤ 5000 := by omega
            clear hsz2 hx16 hm2
            go_wp2_with fail
            refine (CFl.out _ _).mono ?_
            rintro en w2 ⟨rfl, q2, rfl⟩
            go_wp2_with fail
            refine (CO.out _ (HX.drewN q2)).mono ?_
            rintro en w3 ⟨h, rfl, H3⟩
            clear CO HX
            go_wp2_with fail
            refine (CRd.out _ _ (fun _ g => g.drop.drop) H3).mono ?_
            rintro en w4 ⟨lv, rfl, H5⟩
            obtain ⟨la, lc, rfl⟩ := row_shape H5
            clear CRd H3
            go_wp2_with fail
            refine (CFl.out _ _).mono ?_
            rintro en w5 ⟨rfl, q5, rfl⟩
            go_wp2_with fail
            refine (CO2.out _ _ ((H5.drewN q5).re 3 [2, 0, 1])).mono ?_
            rintro en w6 ⟨h2, rfl, H6⟩
            clear CO2 H5
            go_wp2_with fail
            refine (CS.out _ _ _ _ (H6.re 4 [3, 1, 2])).mono ?_
            rintro en w7 ⟨rfl, H7⟩
            have H8 := H7.drop.drop.drop
            clear CS H6 H7
            go_wp2_with fail
            refine (CLv.out _ _ H8).mono ?_
            rintro en w8 ⟨rfl, H9⟩
            go_wp2_with fail
            go_ret
            exact ⟨rfl, HBL.out _ _ H9⟩
end Go.Proofs.Ytjbphdjheklhbaa
