/-
  Layer 47, HeapApart: the walk.
-/
import Derived.Test.YtjbphdjheklhbaaApc
import Derived.Deep.RegionLaw
namespace Go.Proofs.Ytjbphdjheklhbaa
open Go.RowKit

set_option maxRecDepth 100000 in
set_option maxHeartbeats 4000000 in
theorem apart_walk (s : Nat) (hs : s ≤ 65535) (zs : List Int) (hz : ∀ z ∈ zs, 0 ≤ z ∧ z ≤ 65535) (v : Value) (w : World) (hr0 : Reads w v 1 zs.length (zs.map (Value.int .u16))) (hzl : zs.length ≤ 4611686018427387904) :
    Calls Try.prog 4 #[.int .u16 s, v] w (fun e w' => e = .returned (.bool true) ∧ Below w.heap.size w w') := by
  have H0 := Holds.start w
  generalize hE : (⟨w.os, w.output, w.tape⟩ : Env) = E at *
  have hbel : ∀ w' A, Holds E w' (base w :: A) → Below w.heap.size w w' := fun w' A h => by subst hE; exact h.below rfl rfl rfl
  have HBL := Lib.hid hbel
  clear hE hbel
  have hr : ∀ w' X, Holds E w' (base w :: X) → Reads w' v 1 zs.length (zs.map (Value.int .u16)) := fun w' X h => hr0.based h
  have HR := Lib.hid hr
  have CLv := Lib.hid fun w' X (h : Holds E w' X) => lives47 h
  obtain ⟨ad, c, rfl⟩ := hr0.shape
  clear hr hr0
  by_cases hlong : 60 < zs.length
  · have hd : decide ((60 : Int) < (zs.length : Int)) = true := by simp; omega
    clear HR
    go_enter Try.func4, Try.ntmps4
    go_wp2_with fail
    refine (CLv.out _ _ H0).mono ?_
    rintro en w1 ⟨rfl, H1⟩
    go_wp2_with fail
    go_ret
    exact ⟨rfl, HBL.out _ _ H1⟩
  · obtain ⟨len, hlen⟩ : ∃ len, zs.length = len := ⟨_, rfl⟩
    rw [hlen] at HR hlong
    have HLEN := Lib.hid hlen
    rw [hlen]
    have hl60 : len ≤ 60 := by omega
    have hd : decide ((60 : Int) < (len : Int)) = false := by simp; omega
    -- the size
    obtain ⟨n1, hn1⟩ : ∃ n1, s % 700 = n1 := ⟨_, rfl⟩
    have i1 : (s : Int) % 700 = (n1 : Int) := by omega
    obtain ⟨n, hn⟩ : ∃ n, 16 * (1 + n1) = n := ⟨_, rfl⟩
    have i2 : (1 : Int) + (n1 : Int) = ((1 + n1 : Nat) : Int) := by omega
    obtain ⟨n2, hn2⟩ : ∃ n2, 1 + n1 = n2 := ⟨_, rfl⟩
    rw [hn2] at i2 hn
    have i3 : (16 : Int) * (n2 : Int) = (n : Int) := by omega
    have hnb : 16 ≤ n ∧ n ≤ 11200 ∧ n % 16 = 0 := by omega
    obtain ⟨hnb1, hnb2, hnb3⟩ := hnb
    have hmay : mayH 16 (n : Int) = true := by unfold mayH; simp; omega
    have CM := Lib.hid (apMapped 3 (by omega) H0)
    have CN : Hid (∀ w' m M, Fl 3 M → Holds E w' (modH m M :: base w :: []) → Calls Try.prog 15 #[memV m, .int .u64 16, .int .i64 n] w'
      (RetEx E (fun h : Nat => .tuple #[.pointer (some ⟨h, 0, none⟩), .int .i64 0]) (fun h => heapA h m 16 n 3 [⟨0, n, false⟩] :: base w :: []))) := Lib.hid fun w' m M F h => hNew (n := 3) (base := 16) (size := n) F (by omega) hmay h
    have CFl := Lib.hid fun w' m => hpFlat (w := w') (m := m)
    have CA := Lib.hid fun w' X h m l k (h1 : 1 ≤ k) (h2 : k ≤ 65528) (H : Holds E w' (heapA h m 16 n 3 l :: X)) => hAlloc k h1 h2 H
    have CF := Lib.hid fun w' X h m l a (h1 : a < 18446744073709551616) (H : Holds E w' (heapA h m 16 n 3 l :: X)) => hFree a h1 H
    have CB := Lib.hid fun w' X h m l (H : Holds E w' (heapA h m 16 n 3 l :: X)) => hBlocks H
    have hn1b : n1 ≤ 700 := by omega
    have hn2b : n2 ≤ 701 := by omega
    clear H0 hlong hlen hn1 hn hn2 hmay
    go_enter Try.func4, Try.ntmps4
    go_wp2_with fail
    refine CM.out.mono ?_
    rintro en w1 ⟨⟨m, M⟩, rfl, H1⟩
    have F := Lib.hid H1.purE
    have H2 := H1.drop
    clear H1 CM
    dsimp only at *
    go_wp2_with fail
    refine (CFl.out _ _).mono ?_
    rintro en w2 ⟨rfl, q2, rfl⟩
    go_wp2_with fail
    refine (CN.out _ _ _ F.out (H2.drewN q2)).mono ?_
    rintro en w3 ⟨h, rfl, H3⟩
    clear H2 CN F CFl
    go_wp2_with fail
    go_loopw [8, 9, 10] (fun f t i wr => ∃ (k : Nat) (Q : BQ) (l : List BlkS), k ≤ len ∧ i = .int .i64 (k : Nat) ∧ Hid (QOk n Q l) ∧ Q.length ≤ k ∧ Holds E wr (u64R f Q.length (frQ Q) :: u64R t Q.length (toQ Q) :: heapA h m 16 n 3 l :: base w :: [])) (fun _ _ i _ => len - (Go.RowKit.intOf i).toNat)
    case atStart => exact ⟨0, [], _, by omega, rfl, Lib.hid (QOk.zero n hnb1 hnb3), by simp, row.nil _ 1 (row.nil _ 1 H3)⟩
    case round =>
      obtain ⟨i, Q, l, hi, rfl, hQ, hql, HX⟩ := hrel
      by_cases hlt : i < len
      · obtain ⟨zg, zo, rfl, hzr⟩ := (HR.out wr _ HX.p3).at (by omega)
        obtain ⟨X, hX⟩ : ∃ X : Nat, zs.getD i 0 = (X : Int) := by
          have := hz (zs.getD i 0) (getD_mem (by rw [HLEN.out]; omega))
          exact ⟨(zs.getD i 0).toNat, by omega⟩
        have hXb : X ≤ 65535 := by
          have := hz (zs.getD i 0) (getD_mem (by rw [HLEN.out]; omega))
          omega
        have c0 : wr.cell? ⟨zg, zo + i, none⟩ = some (.int .u16 X) := by
          rw [hzr i (.int .u16 X)]
          rw [List.getElem?_map, get_getD (d := 0) (by rw [HLEN.out]; omega), hX]
          rfl
        obtain ⟨fa, fc, rfl⟩ := row_shape HX
        obtain ⟨ta, tc, rfl⟩ := row_shape HX.swap
        obtain ⟨nq, hnq⟩ : ∃ nq, Q.length = nq := ⟨_, rfl⟩
        have HNQ := Lib.hid hnq
        rw [hnq] at HX hql ⊢
        by_cases hdel : X % 4 = 0 ∧ 0 < nq
        · obtain ⟨hd4, hdq⟩ := hdel
          have h4 : ((X : Int) % 4 == 0) = true := by simp; omega
          have h5 : decide ((0 : Int) < (nq : Int)) = true := by simp; omega
          obtain ⟨X4, hX4⟩ : ∃ X4, X / 4 = X4 := ⟨_, rfl⟩
          have i4 : (X : Int) / 4 = (X4 : Int) := by omega
          obtain ⟨k, hk⟩ : ∃ k, X4 % nq = k := ⟨_, rfl⟩
          have hkq : k < nq := hk ▸ Nat.mod_lt _ hdq
          have i5 : (X4 : Int) % (nq : Int) = (k : Int) := by rw [← hk]; simp
          have hX4b : X4 ≤ 65535 := by omega
          obtain ⟨q, hq⟩ : ∃ q, Q[k]? = some q := ⟨_, List.getElem?_eq_getElem (by rw [HNQ.out]; exact hkq)⟩
          have hqb := hQ.out.bd (List.mem_of_getElem? hq)
          obtain ⟨fg, fo, rfl, hfr⟩ := (row.reads HX).at (by omega)
          have d0 : ∀ w' X', Holds E w' (u64R (.slice (some ⟨fg, fo, none⟩) nq fc) nq (frQ Q) :: X') → w'.cell? ⟨fg, fo + k, none⟩ = some (.int .u64 ((16 + q.1.o + 8 : Nat) : Int)) := fun w' X' h' => by
            obtain ⟨g2, o2, e2, hf2⟩ := (row.reads h').at (by omega)
            cases e2
            rw [hf2 k _ (u64v_get (by rw [frQ_len, HNQ.out]; omega))]
            unfold frQ
            rw [getD_of (x := 16 + q.1.o + 8) (by rw [List.getElem?_map, hq]; rfl)]
          have HFREE := Lib.hid fun hl => hQ.out.free hq (hl := hl)
          have hFU := free_used (base := 16) hQ.out.lay (hQ.out.mem (List.mem_of_getElem? hq))
          obtain ⟨a, ha⟩ : ∃ a, 16 + q.1.o + 8 = a := ⟨_, rfl⟩
          have ha64 : a < 18446744073709551616 := by omega
          rw [ha] at d0 HFREE hFU
          have D0 := Lib.hid d0
          have CF1 : Hid (∀ w' l', Holds E w' (u64R (.slice (some ⟨fg, fo, none⟩) nq fc) nq (frQ Q) :: u64R (.slice ta nq tc) nq (toQ Q) :: heapA h m 16 n 3 l' :: base w :: []) → Calls Try.prog 16 #[.pointer (some ⟨h, 0, none⟩), .int .u64 a] w' (Ret E (.int .i64 (freeE (idxOf (isAt 16 a) l'))) (u64R (.slice (some ⟨fg, fo, none⟩) nq fc) nq (frQ Q) :: u64R (.slice ta nq tc) nq (toQ Q) :: heapA h m 16 n 3 (freeL (isAt 16 a) l') :: base w :: []))) := Lib.hid fun w' l' h' =>
            retC (CF.out w' _ h m l' a ha64 (h'.re 4 [2, 0, 1, 3])) fun w'' h'' => h''.re 4 [1, 2, 0, 3]
          have C1 := Lib.hid (CF1.out wr l HX)
          have C2 := Lib.hid (fun w' h' => CF1.out w' (freeL (isAt 16 a) l) h')
          rw [hFU.1] at C1
          rw [hFU.2.2] at C2
          have e1 := D0.out _ _ HX
          have hidem : freeL (isAt 16 a) (freeL (isAt 16 a) l) = freeL (isAt 16 a) l := by
            refine idx_nonfree ?_
            have := hFU.2.2
            cases hi : idxOf (isAt 16 a) (freeL (isAt 16 a) l) with
            | none => rfl
            | some i => rw [hi] at this; cases this
          rw [hidem] at C2
          have hq' := hq
          clear hfr hqb ha hFU hX4 hk d0 CF1 hidem hX hzr hd4 hdq
          go_wp2_with fail
          refine C1.out.mono ?_
          rintro en w5 ⟨rfl, H5⟩
          have e2 := D0.out _ _ H5
          clear C1 HX e1
          go_wp2_with fail
          refine (C2.out _ H5).mono ?_
          rintro en w6 ⟨rfl, H6⟩
          have e3 := D0.out _ _ H6
          have hQ2 := (HFREE.out (heapA_lay H6.p2)).2.1
          clear C2 H5 e2 HFREE D0
          have hcapf : nq ≤ fc := by
            rcases (row.reads H6).2 with ⟨h, h'⟩ | ⟨a', c', h, h', _⟩
            · cases h
            · cases h; exact h'
          have bnd1 : 0 + k ≤ maxLen := by unfold maxLen; omega
          have bnd2 : (0 + k) * 8 ≤ 140737488355328 := by omega
          have bnd3 : k + (nq - (k + 1)) ≤ maxLen := by unfold maxLen; omega
          have bnd4 : (k + (nq - (k + 1))) * 8 ≤ 140737488355328 := by omega
          have f3 : k + 1 ≤ nq := by omega
          have hs1 : (k : Int) + 1 ≤ (nq : Int) := by omega
          have hs2 : (0 : Int) ≤ (k : Int) + 1 := by omega
          have hs3 : ((k : Int) + 1).toNat = k + 1 := by omega
          have hki : (k : Int) ≤ (nq : Int) := by omega
          have hs4 : IntKind.i64.wrap ((k : Int) + 1) = (k : Int) + 1 := IntWalk.i64_in _ (by omega)
          have hk0 : (0 : Int) ≤ (k : Int) := by omega
          have hkfc : k ≤ fc := by omega
          obtain ⟨tg, to', rfl, _⟩ := (row.reads H6.swap).at (by omega)
          have hcapt : nq ≤ tc := by
            rcases (row.reads H6.swap).2 with ⟨h, h'⟩ | ⟨a', c', h, h', _⟩
            · cases h
            · cases h; exact h'
          have hktc : k ≤ tc := by omega
          have HTK : Hid (∀ w' X' g o c L, Holds E w' (u64R (.slice (some ⟨g, o, none⟩) nq c) nq L :: X') → Reads w' (.slice (some ⟨g, o, none⟩) k c) 1 k (u64v (L.take k))) := Lib.hid fun w' X' g o c L h' => by
            have := reads_take (k := k) (row.reads h') (by omega)
            rw [Nat.mul_one, u64v_take] at this
            exact this
          obtain ⟨fx, hfx⟩ : ∃ fx, (if fc = k + 1 then some (⟨fg, fo, none⟩ : Addr) else some ⟨fg, fo + (k + 1), none⟩) = some ⟨fg, fx, none⟩ := by
            by_cases hc : fc = k + 1
            · exact ⟨fo, if_pos hc⟩
            · exact ⟨fo + (k + 1), if_neg hc⟩
          obtain ⟨tx, htx⟩ : ∃ tx, (if tc = k + 1 then some (⟨tg, to', none⟩ : Addr) else some ⟨tg, to' + (k + 1), none⟩) = some ⟨tg, tx, none⟩ := by
            by_cases hc : tc = k + 1
            · exact ⟨to', if_pos hc⟩
            · exact ⟨to' + (k + 1), if_neg hc⟩
          have HDR : Hid (∀ w' X' g o c L x, nq ≤ c → (if c = k + 1 then some (⟨g, o, none⟩ : Addr) else some ⟨g, o + (k + 1), none⟩) = some ⟨g, x, none⟩ → Holds E w' (u64R (.slice (some ⟨g, o, none⟩) nq c) nq L :: X') → Reads w' (.slice (some ⟨g, x, none⟩) (nq - (k + 1)) (c - (k + 1))) 1 (nq - (k + 1)) (u64v (L.drop (k + 1)))) := Lib.hid fun w' X' g o c L x hle hx h' => by
            have := reads_drop (k := k + 1) (row.reads h') (by omega)
            rw [Nat.mul_one, u64v_drop] at this
            by_cases hc : c = k + 1
            · have hn0 : nq - (k + 1) = 0 := by omega
              have hl := this.1
              rw [hn0] at hl
              have hnil : u64v (L.drop (k + 1)) = [] := List.eq_nil_of_length_eq_zero (by simpa using hl)
              rw [hn0, hnil]
              exact reads_none' _ _ _ _
            · rw [if_neg hc] at hx
              cases hx
              exact this
          have HFX := Lib.hid hfx
          have HTX := Lib.hid htx
          have bl : k + (nq - (k + 1)) = nq - 1 := by omega
          have HBL1 := Lib.hid bl
          clear bl
          go_wp2_with fail
          go_region_law (first
            | (refine step_append_sl rfl (.tmp 84) (.tmp 87) _ rfl 28 1 8 elem_u64 (.slice (some ⟨w6.heap.size, 0, none⟩) 0 0) 0 [] (by go_simp) (.slice (some ⟨fg, fo, none⟩) k fc) k (u64v (List.take k (frQ Q))) (by go_simp) (u64v_one _) bnd1 bnd2 (by exact Holds.drew (row.made (Holds.alloc H6 _) (Nat.le_refl _) (by decide) rfl rfl)) (by exact HTK.out _ _ _ _ _ _ (Holds.drew (Holds.drop (Holds.alloc H6 _)))) ?_; intro v3 w3 H3; rw [Nat.zero_add, List.nil_append] at H3)
            | (refine step_append_sl rfl (.tmp 88) (.tmp 92) _ rfl 28 1 8 elem_u64 v3 k (u64v (List.take k (frQ Q))) (by go_simp) (.slice (some ⟨fg, fx, none⟩) (nq - (k + 1)) (fc - (k + 1))) (nq - (k + 1)) (u64v (List.drop (k + 1) (frQ Q))) (by go_simp) (u64v_one _) bnd3 bnd4 (by exact H3) (by exact (HDR.out _ _ _ _ _ _ _ hcapf HFX.out (Holds.swap H3))) ?_; intro v4 w4 H4))
          have H7 : Holds E w4 (u64R (.slice (some ⟨tg, to', none⟩) nq tc) nq (toQ Q) :: u64R v4 (nq - 1) (frQ (Q.eraseIdx k)) :: heapA h m 16 n 3 (freeL (isAt 16 a) l) :: base w :: []) := by
            have h8 := H4.re 5 [2, 0, 3, 4]
            rw [HBL1.out, ← u64v_append, ← frQ_erase] at h8
            exact h8
          obtain ⟨fa2, fc2, hv4⟩ := row_shape H7.swap
          subst hv4
          clear H3 H4 H6 hfx
          rename_i w4
          go_wp2_with fail
          go_region_law (first
            | (refine step_append_sl rfl (.tmp 94) (.tmp 97) _ rfl 28 1 8 elem_u64 (.slice (some ⟨w4.heap.size, 0, none⟩) 0 0) 0 [] (by go_simp) (.slice (some ⟨tg, to', none⟩) k tc) k (u64v (List.take k (toQ Q))) (by go_simp) (u64v_one _) bnd1 bnd2 (by exact Holds.drew (row.made (Holds.alloc H7 _) (Nat.le_refl _) (by decide) rfl rfl)) (by exact HTK.out _ _ _ _ _ _ (Holds.drew (Holds.drop (Holds.alloc H7 _)))) ?_; intro v3 w3 H3; rw [Nat.zero_add, List.nil_append] at H3)
            | (refine step_append_sl rfl (.tmp 98) (.tmp 102) _ rfl 28 1 8 elem_u64 v3 k (u64v (List.take k (toQ Q))) (by go_simp) (.slice (some ⟨tg, tx, none⟩) (nq - (k + 1)) (tc - (k + 1))) (nq - (k + 1)) (u64v (List.drop (k + 1) (toQ Q))) (by go_simp) (u64v_one _) bnd3 bnd4 (by exact H3) (by exact (HDR.out _ _ _ _ _ _ _ hcapt HTX.out (Holds.swap H3))) ?_; intro v4 w4 H4))
          have hlq : (Q.eraseIdx k).length = nq - 1 := by rw [List.length_eraseIdx, HNQ.out, if_pos hkq]
          have H9 : Hid (Holds E w4 (u64R (.slice fa2 (nq - 1) fc2) (Q.eraseIdx k).length (frQ (Q.eraseIdx k)) :: u64R v4 (Q.eraseIdx k).length (toQ (Q.eraseIdx k)) :: heapA h m 16 n 3 (freeL (isAt 16 a) l) :: base w :: [])) := Lib.hid (by
            have h8 : Holds E w4 (u64R (.slice fa2 (nq - 1) fc2) (nq - 1) (frQ (Q.eraseIdx k)) :: u64R v4 (k + (nq - (k + 1))) (toQ (Q.eraseIdx k)) :: heapA h m 16 n 3 (freeL (isAt 16 a) l) :: base w :: []) := by
              have h8 := H4.re 5 [2, 0, 3, 4]
              rw [← u64v_append, ← toQ_erase] at h8
              exact h8
            rw [HBL1.out] at h8
            rw [hlq]
            exact h8)
          have HLQ : Hid ((Q.eraseIdx k).length ≤ i + 1) := Lib.hid (by omega)
          have HQ2 := Lib.hid hQ2
          clear H3 H4 H7 htx HTK HDR hlq hQ2 HFX HTX HBL1
          go_wp2_with fail
          go_roundw
          case rel => exact ⟨i + 1, _, _, by omega, by go_num, HQ2, HLQ.out, H9.out⟩
          case measure => simp [Go.RowKit.intOf]; omega
        · have hc1 : ((X : Int) % 4 == 0) = false ∨ (((X : Int) % 4 == 0) = true ∧ decide ((0 : Int) < (nq : Int)) = false ∧ ¬ 0 < nq) := by
            by_cases h4 : X % 4 = 0
            · exact .inr ⟨by simp; omega, by simp; omega, by omega⟩
            · exact .inl (by simp; omega)
          obtain ⟨X9, hX9⟩ : ∃ X9, X % 900 = X9 := ⟨_, rfl⟩
          have i6 : (X : Int) % 900 = (X9 : Int) := by omega
          obtain ⟨many, hmany⟩ : ∃ many, 1 + X9 = many := ⟨_, rfl⟩
          have i7 : (1 : Int) + (X9 : Int) = (many : Int) := by omega
          have hm1 : 1 ≤ many ∧ many ≤ 900 := by omega
          obtain ⟨hm1, hm2⟩ := hm1
          have hX9b : X9 ≤ 900 := by omega
          obtain ⟨u1, u2, u3⟩ := up16_bd (n := many + 8) (by omega)
          have CAm := CA.out wr (u64R (.slice fa nq fc) nq (frQ Q) :: u64R (.slice ta nq tc) nq (toQ Q) :: base w :: []) h m l many hm1 (by omega) (HX.re 4 [2, 0, 1, 3])
          obtain ⟨need, hneed⟩ : ∃ need, up16 (many + 8) = need := ⟨_, rfl⟩
          rw [hneed] at CAm u1 u2 u3
          clear hX9 hmany hneed hdel hzr
          rcases hf : l.find? (fits need) with _ | b
          · rw [hf, allocL_none hf] at CAm
            unfold allocV at CAm
            have CAH := Lib.hid CAm
            have HLQ : Hid (Q.length ≤ i + 1) := Lib.hid (by rw [HNQ.out]; omega)
            clear CAm hf HX
            rcases hc1 with h4 | ⟨h4, h5, h6⟩
            · go_wp2_with fail
              refine CAH.out.mono ?_
              rintro en w5 ⟨rfl, H5⟩
              have H6 : Hid (Holds E w5 (u64R (.slice fa nq fc) Q.length (frQ Q) :: u64R (.slice ta nq tc) Q.length (toQ Q) :: heapA h m 16 n 3 l :: base w :: [])) := Lib.hid (by rw [HNQ.out]; exact H5.re 4 [1, 2, 0, 3])
              clear H5 CAH
              go_wp2_with fail
              go_roundw
              case rel => exact ⟨i + 1, Q, l, by omega, by go_num, hQ, HLQ.out, H6.out⟩
              case measure => simp [Go.RowKit.intOf]; omega
            · go_wp2_with fail
              refine CAH.out.mono ?_
              rintro en w5 ⟨rfl, H5⟩
              have H6 : Hid (Holds E w5 (u64R (.slice fa nq fc) Q.length (frQ Q) :: u64R (.slice ta nq tc) Q.length (toQ Q) :: heapA h m 16 n 3 l :: base w :: [])) := Lib.hid (by rw [HNQ.out]; exact H5.re 4 [1, 2, 0, 3])
              clear H5 CAH
              go_wp2_with fail
              go_roundw
              case rel => exact ⟨i + 1, Q, l, by omega, by go_num, hQ, HLQ.out, H6.out⟩
              case measure => simp [Go.RowKit.intOf]; omega
          · rw [hf] at CAm
            unfold allocV at CAm
            dsimp only at CAm
            have CAH := Lib.hid CAm
            have HTK := Lib.hid fun hl => hQ.out.take hf hl (show many + 8 ≤ need by omega)
            have HAP := Lib.hid fun hl q hq => hQ.out.apart hf hl (show many + 8 ≤ need by omega) (q := q) hq
            have HBD := Lib.hid fun q hq => hQ.out.bd (q := q) hq
            have hLb : ∀ hl : Lay 0 (allocL l need) n, b.o + need ≤ n := fun hl => by
              have := (hQ.out.take hf hl (show many + 8 ≤ need by omega)).bd (q := (⟨b.o, need, true⟩, many)) (by simp)
              exact this.1
            have HLB := Lib.hid hLb
            clear CAm hf HX hLb
            rcases hc1 with h4 | ⟨h4, h5, h6⟩
            · go_wp2_with fail
              refine CAH.out.mono ?_
              rintro en w5 ⟨rfl, H5⟩
              have hlay := heapA_lay H5
              have hbn := HLB.out hlay
              have HT2 := Lib.hid (HTK.out hlay)
              have HA2 := Lib.hid (HAP.out hlay)
              obtain ⟨a, ha⟩ : ∃ a, 16 + b.o + 8 = a := ⟨_, rfl⟩
              obtain ⟨en', hen⟩ : ∃ en', a + many = en' := ⟨_, rfl⟩
              have i8 : (a : Int) + (many : Int) = (en' : Int) := by omega
              have i9 : (16 : Int) + (n : Int) = ((16 + n : Nat) : Int) := by omega
              obtain ⟨n16, hn16⟩ : ∃ n16, 16 + n = n16 := ⟨_, rfl⟩
              rw [hn16] at i9
              have ab : a ≤ 20000 := by omega
              have eb : en' ≤ 20000 := by omega
              have d1 : decide ((a : Int) < 24) = false := by simp; omega
              have d2 : decide ((n16 : Int) < (en' : Int)) = false := by simp; omega
              have nb : n16 ≤ 20000 := by omega
              have d3 : ¬ n16 < en' := by omega
              have d4 : ¬ a < 24 := by omega
              have HEN : Hid (en' = 16 + b.o + 8 + many ∧ 16 + b.o + 8 = a) := Lib.hid (by omega)
              have H6 : Holds E w5 (u64R (.slice fa nq fc) nq (frQ Q) :: u64R (.slice ta nq tc) nq (toQ Q) :: heapA h m 16 n 3 (allocL l need) :: base w :: []) := H5.re 4 [1, 2, 0, 3]
              rw [ha]
              clear H5 CAH HTK HAP HLB hlay hbn hen hn16 ha
              have hnq60 : nq ≤ 60 := by omega
              go_wp2_with fail
              go_loopw [16] (fun x wr => ∃ (j : Nat), j ≤ nq ∧ x = .int .i64 (j : Nat) ∧ Holds E wr (u64R (.slice fa nq fc) nq (frQ Q) :: u64R (.slice ta nq tc) nq (toQ Q) :: heapA h m 16 n 3 (allocL l need) :: base w :: [])) (fun x _ => nq - (Go.RowKit.intOf x).toNat)
              case atStart => exact ⟨0, by omega, rfl, H6⟩
              case round =>
                clear H6
                rename_i wro _ _ _ _ _ _ _
                obtain ⟨j, hj, rfl, HY⟩ := hrel
                by_cases hlj : j < nq
                · obtain ⟨q, hq⟩ : ∃ q, Q[j]? = some q := ⟨_, List.getElem?_eq_getElem (by rw [HNQ.out]; exact hlj)⟩
                  have hap := HA2.out q (List.mem_of_getElem? hq)
                  have hqb := HBD.out q (List.mem_of_getElem? hq)
                  obtain ⟨fg, fo, hfa, hfr⟩ := (row.reads HY).at (by omega)
                  obtain ⟨tg, to', hta, htr⟩ := (row.reads HY.swap).at (by omega)
                  have c1 : wr.cell? ⟨fg, fo + j, none⟩ = some (.int .u64 ((16 + q.1.o + 8 : Nat) : Int)) := by
                    rw [hfr j _ (u64v_get (by rw [frQ_len, HNQ.out]; omega))]
                    unfold frQ
                    rw [getD_of (x := 16 + q.1.o + 8) (by rw [List.getElem?_map, hq]; rfl)]
                  have c2 : wr.cell? ⟨tg, to' + j, none⟩ = some (.int .u64 ((16 + q.1.o + 8 + q.2 : Nat) : Int)) := by
                    rw [htr j _ (u64v_get (by rw [toQ_len, HNQ.out]; omega))]
                    unfold toQ
                    rw [getD_of (x := 16 + q.1.o + 8 + q.2) (by rw [List.getElem?_map, hq]; rfl)]
                  have hen := HEN.out
                  obtain ⟨fv, hfv⟩ : ∃ fv, 16 + q.1.o + 8 = fv := ⟨_, rfl⟩
                  obtain ⟨tv, htv⟩ : ∃ tv, fv + q.2 = tv := ⟨_, rfl⟩
                  have hfvb : fv ≤ 40000 := by omega
                  have htvb : tv ≤ 40000 := by omega
                  have hap2 : tv ≤ a ∨ (a < tv ∧ en' ≤ fv) := by omega
                  rw [hfv] at c1 c2
                  rw [htv] at c2
                  subst hfa hta
                  have HYY := Lib.hid HY
                  clear hap hqb hen hfv htv hfr htr hq HY
                  rcases hap2 with g1 | ⟨g1, g2⟩
                  · have p1 : decide ((a : Int) < (tv : Int)) = false := by simp; omega
                    have p2 : ¬ a < tv := by omega
                    go_wp2_with fail
                    go_roundw
                    case rel => exact ⟨j + 1, by omega, by go_num, HYY.out⟩
                    case measure => simp [Go.RowKit.intOf]; try omega
                  · have p1 : decide ((a : Int) < (tv : Int)) = true := by simp; omega
                    have p3 : decide ((fv : Int) < (en' : Int)) = false := by simp; omega
                    have p4 : ¬ fv < en' := by omega
                    go_wp2_with fail
                    go_roundw
                    case rel => exact ⟨j + 1, by omega, by go_num, HYY.out⟩
                    case measure => simp [Go.RowKit.intOf]; try omega
                · obtain rfl : nq = j := by omega
                  have HA1 : Holds E (wr.alloc (.cells #[.int .u64 a] 28)) (u64R (.slice fa nq fc) nq (frQ Q) :: u64R (.slice ta nq tc) nq (toQ Q) :: heapA h m 16 n 3 (allocL l need) :: base w :: []) := (HY.alloc _).drop
                  have HRL := reads_lits wr [.int .u64 a] 28 1 1 rfl
                  clear HY
                  go_wp2_with (at_builtin; refine wpList_append_sl rfl _ _ _ rfl 28 1 8 elem_u64 (.slice fa nq fc) nq (u64v (frQ Q)) rfl HA1 (.slice (some ⟨wr.heap.size, 0, none⟩) 1 1) 1 [.int .u64 a] rfl HRL (by simp [Value.oneCell']) ?_ ?_ ?_)
                  · unfold maxLen; omega
                  · omega
                  intro v5 w5 HB1
                  clear HA1 HRL
                  have HB2 : Holds E (w5.alloc (.cells #[.int .u64 en'] 28)) (u64R (.slice ta nq tc) nq (toQ Q) :: row v5 28 1 (nq + 1) (u64v (frQ Q) ++ [.int .u64 a]) :: heapA h m 16 n 3 (allocL l need) :: base w :: []) := (HB1.alloc _).re 5 [2, 1, 3, 4]
                  have HRL := reads_lits w5 [.int .u64 en'] 28 1 1 rfl
                  clear HB1
                  go_wp2_with (at_builtin; refine wpList_append_sl rfl _ _ _ rfl 28 1 8 elem_u64 (.slice ta nq tc) nq (u64v (toQ Q)) rfl HB2 (.slice (some ⟨w5.heap.size, 0, none⟩) 1 1) 1 [.int .u64 en'] rfl HRL (by simp [Value.oneCell']) ?_ ?_ ?_)
                  · unfold maxLen; omega
                  · omega
                  intro v6 w6 HB3
                  clear HB2 HRL
                  have hen := HEN.out
                  have HZ : Hid (Holds E w6 (u64R v5 (Q ++ [((⟨b.o, need, true⟩ : BlkS), many)]).length (frQ (Q ++ [((⟨b.o, need, true⟩ : BlkS), many)])) :: u64R v6 (Q ++ [((⟨b.o, need, true⟩ : BlkS), many)]).length (toQ (Q ++ [((⟨b.o, need, true⟩ : BlkS), many)])) :: heapA h m 16 n 3 (allocL l need) :: base w :: [])) := Lib.hid (by
                    have g1 : u64v (frQ (Q ++ [((⟨b.o, need, true⟩ : BlkS), many)])) = u64v (frQ Q) ++ [.int .u64 a] := by
                      unfold frQ; rw [List.map_append, u64v_append]; simp [u64v]; omega
                    have g2 : u64v (toQ (Q ++ [((⟨b.o, need, true⟩ : BlkS), many)])) = u64v (toQ Q) ++ [.int .u64 en'] := by
                      unfold toQ; rw [List.map_append, u64v_append]; simp [u64v]; omega
                    unfold u64R
                    rw [g1, g2, List.length_append, List.length_singleton, HNQ.out]
                    exact HB3.swap)
                  have HLQ : Hid ((Q ++ [((⟨b.o, need, true⟩ : BlkS), many)]).length ≤ i + 1) := Lib.hid (by rw [List.length_append, List.length_singleton, HNQ.out]; omega)
                  clear HB3 hen
                  go_wp2_with fail
                  go_roundw
                  case rel => exact ⟨i + 1, _, _, by omega, by go_num, HT2, HLQ.out, HZ.out⟩
                  case measure => simp [Go.RowKit.intOf]; try omega
            · go_wp2_with fail
              refine CAH.out.mono ?_
              rintro en w5 ⟨rfl, H5⟩
              have hlay := heapA_lay H5
              have hbn := HLB.out hlay
              have HT2 := Lib.hid (HTK.out hlay)
              have HA2 := Lib.hid (HAP.out hlay)
              obtain ⟨a, ha⟩ : ∃ a, 16 + b.o + 8 = a := ⟨_, rfl⟩
              obtain ⟨en', hen⟩ : ∃ en', a + many = en' := ⟨_, rfl⟩
              have i8 : (a : Int) + (many : Int) = (en' : Int) := by omega
              have i9 : (16 : Int) + (n : Int) = ((16 + n : Nat) : Int) := by omega
              obtain ⟨n16, hn16⟩ : ∃ n16, 16 + n = n16 := ⟨_, rfl⟩
              rw [hn16] at i9
              have ab : a ≤ 20000 := by omega
              have eb : en' ≤ 20000 := by omega
              have d1 : decide ((a : Int) < 24) = false := by simp; omega
              have d2 : decide ((n16 : Int) < (en' : Int)) = false := by simp; omega
              have nb : n16 ≤ 20000 := by omega
              have d3 : ¬ n16 < en' := by omega
              have d4 : ¬ a < 24 := by omega
              have HEN : Hid (en' = 16 + b.o + 8 + many ∧ 16 + b.o + 8 = a) := Lib.hid (by omega)
              have H6 : Holds E w5 (u64R (.slice fa nq fc) nq (frQ Q) :: u64R (.slice ta nq tc) nq (toQ Q) :: heapA h m 16 n 3 (allocL l need) :: base w :: []) := H5.re 4 [1, 2, 0, 3]
              rw [ha]
              clear H5 CAH HTK HAP HLB hlay hbn hen hn16 ha
              have hnq60 : nq ≤ 60 := by omega
              go_wp2_with fail
              go_loopw [16] (fun x wr => ∃ (j : Nat), j ≤ nq ∧ x = .int .i64 (j : Nat) ∧ Holds E wr (u64R (.slice fa nq fc) nq (frQ Q) :: u64R (.slice ta nq tc) nq (toQ Q) :: heapA h m 16 n 3 (allocL l need) :: base w :: [])) (fun x _ => nq - (Go.RowKit.intOf x).toNat)
              case atStart => exact ⟨0, by omega, rfl, H6⟩
              case round =>
                clear H6
                rename_i wro _ _ _ _ _ _ _
                obtain ⟨j, hj, rfl, HY⟩ := hrel
                by_cases hlj : j < nq
                · obtain ⟨q, hq⟩ : ∃ q, Q[j]? = some q := ⟨_, List.getElem?_eq_getElem (by rw [HNQ.out]; exact hlj)⟩
                  have hap := HA2.out q (List.mem_of_getElem? hq)
                  have hqb := HBD.out q (List.mem_of_getElem? hq)
                  obtain ⟨fg, fo, hfa, hfr⟩ := (row.reads HY).at (by omega)
                  obtain ⟨tg, to', hta, htr⟩ := (row.reads HY.swap).at (by omega)
                  have c1 : wr.cell? ⟨fg, fo + j, none⟩ = some (.int .u64 ((16 + q.1.o + 8 : Nat) : Int)) := by
                    rw [hfr j _ (u64v_get (by rw [frQ_len, HNQ.out]; omega))]
                    unfold frQ
                    rw [getD_of (x := 16 + q.1.o + 8) (by rw [List.getElem?_map, hq]; rfl)]
                  have c2 : wr.cell? ⟨tg, to' + j, none⟩ = some (.int .u64 ((16 + q.1.o + 8 + q.2 : Nat) : Int)) := by
                    rw [htr j _ (u64v_get (by rw [toQ_len, HNQ.out]; omega))]
                    unfold toQ
                    rw [getD_of (x := 16 + q.1.o + 8 + q.2) (by rw [List.getElem?_map, hq]; rfl)]
                  have hen := HEN.out
                  obtain ⟨fv, hfv⟩ : ∃ fv, 16 + q.1.o + 8 = fv := ⟨_, rfl⟩
                  obtain ⟨tv, htv⟩ : ∃ tv, fv + q.2 = tv := ⟨_, rfl⟩
                  have hfvb : fv ≤ 40000 := by omega
                  have htvb : tv ≤ 40000 := by omega
                  have hap2 : tv ≤ a ∨ (a < tv ∧ en' ≤ fv) := by omega
                  rw [hfv] at c1 c2
                  rw [htv] at c2
                  subst hfa hta
                  have HYY := Lib.hid HY
                  clear hap hqb hen hfv htv hfr htr hq HY
                  rcases hap2 with g1 | ⟨g1, g2⟩
                  · have p1 : decide ((a : Int) < (tv : Int)) = false := by simp; omega
                    have p2 : ¬ a < tv := by omega
                    go_wp2_with fail
                    go_roundw
                    case rel => exact ⟨j + 1, by omega, by go_num, HYY.out⟩
                    case measure => simp [Go.RowKit.intOf]; try omega
                  · have p1 : decide ((a : Int) < (tv : Int)) = true := by simp; omega
                    have p3 : decide ((fv : Int) < (en' : Int)) = false := by simp; omega
                    have p4 : ¬ fv < en' := by omega
                    go_wp2_with fail
                    go_roundw
                    case rel => exact ⟨j + 1, by omega, by go_num, HYY.out⟩
                    case measure => simp [Go.RowKit.intOf]; try omega
                · obtain rfl : nq = j := by omega
                  have HA1 : Holds E (wr.alloc (.cells #[.int .u64 a] 28)) (u64R (.slice fa nq fc) nq (frQ Q) :: u64R (.slice ta nq tc) nq (toQ Q) :: heapA h m 16 n 3 (allocL l need) :: base w :: []) := (HY.alloc _).drop
                  have HRL := reads_lits wr [.int .u64 a] 28 1 1 rfl
                  clear HY
                  go_wp2_with (at_builtin; refine wpList_append_sl rfl _ _ _ rfl 28 1 8 elem_u64 (.slice fa nq fc) nq (u64v (frQ Q)) rfl HA1 (.slice (some ⟨wr.heap.size, 0, none⟩) 1 1) 1 [.int .u64 a] rfl HRL (by simp [Value.oneCell']) ?_ ?_ ?_)
                  · unfold maxLen; omega
                  · omega
                  intro v5 w5 HB1
                  clear HA1 HRL
                  have HB2 : Holds E (w5.alloc (.cells #[.int .u64 en'] 28)) (u64R (.slice ta nq tc) nq (toQ Q) :: row v5 28 1 (nq + 1) (u64v (frQ Q) ++ [.int .u64 a]) :: heapA h m 16 n 3 (allocL l need) :: base w :: []) := (HB1.alloc _).re 5 [2, 1, 3, 4]
                  have HRL := reads_lits w5 [.int .u64 en'] 28 1 1 rfl
                  clear HB1
                  go_wp2_with (at_builtin; refine wpList_append_sl rfl _ _ _ rfl 28 1 8 elem_u64 (.slice ta nq tc) nq (u64v (toQ Q)) rfl HB2 (.slice (some ⟨w5.heap.size, 0, none⟩) 1 1) 1 [.int .u64 en'] rfl HRL (by simp [Value.oneCell']) ?_ ?_ ?_)
                  · unfold maxLen; omega
                  · omega
                  intro v6 w6 HB3
                  clear HB2 HRL
                  have hen := HEN.out
                  have HZ : Hid (Holds E w6 (u64R v5 (Q ++ [((⟨b.o, need, true⟩ : BlkS), many)]).length (frQ (Q ++ [((⟨b.o, need, true⟩ : BlkS), many)])) :: u64R v6 (Q ++ [((⟨b.o, need, true⟩ : BlkS), many)]).length (toQ (Q ++ [((⟨b.o, need, true⟩ : BlkS), many)])) :: heapA h m 16 n 3 (allocL l need) :: base w :: [])) := Lib.hid (by
                    have g1 : u64v (frQ (Q ++ [((⟨b.o, need, true⟩ : BlkS), many)])) = u64v (frQ Q) ++ [.int .u64 a] := by
                      unfold frQ; rw [List.map_append, u64v_append]; simp [u64v]; omega
                    have g2 : u64v (toQ (Q ++ [((⟨b.o, need, true⟩ : BlkS), many)])) = u64v (toQ Q) ++ [.int .u64 en'] := by
                      unfold toQ; rw [List.map_append, u64v_append]; simp [u64v]; omega
                    unfold u64R
                    rw [g1, g2, List.length_append, List.length_singleton, HNQ.out]
                    exact HB3.swap)
                  have HLQ : Hid ((Q ++ [((⟨b.o, need, true⟩ : BlkS), many)]).length ≤ i + 1) := Lib.hid (by rw [List.length_append, List.length_singleton, HNQ.out]; omega)
                  clear HB3 hen
                  go_wp2_with fail
                  go_roundw
                  case rel => exact ⟨i + 1, _, _, by omega, by go_num, HT2, HLQ.out, HZ.out⟩
                  case measure => simp [Go.RowKit.intOf]; try omega
      · obtain rfl : i = len := by omega
        obtain ⟨fa, fc, rfl⟩ := row_shape HX
        obtain ⟨ta, tc, rfl⟩ := row_shape HX.swap
        have hq60 : Q.length ≤ 60 := by omega
        go_wp2_with fail
        go_loopw [17] (fun x wr => ∃ (j : Nat) (l : List BlkS), j ≤ Q.length ∧ x = .int .i64 (j : Nat) ∧ Hid (QOk n (Q.drop j) l) ∧ Holds E wr (u64R (.slice fa Q.length fc) Q.length (frQ Q) :: heapA h m 16 n 3 l :: base w :: [])) (fun x _ => Q.length - (Go.RowKit.intOf x).toNat)
        case atStart => exact ⟨0, l, by omega, rfl, hQ, HX.re 3 [0, 2]⟩
        case round =>
          clear HX hQ hql
          rename_i wro _ _ _ _ _ _ _ _
          obtain ⟨j, l, hj, rfl, hQ, HX⟩ := hrel
          by_cases hlj : j < Q.length
          · obtain ⟨q, hq⟩ : ∃ q, Q[j]? = some q := ⟨_, List.getElem?_eq_getElem hlj⟩
            have hq0 : (Q.drop j)[0]? = some q := by rw [List.getElem?_drop, Nat.add_zero]; exact hq
            have hqb := hQ.out.bd (List.mem_of_getElem? hq0)
            obtain ⟨fg, fo, rfl, hfr⟩ := (row.reads HX).at (by omega)
            have c0 : wr.cell? ⟨fg, fo + j, none⟩ = some (.int .u64 ((16 + q.1.o + 8 : Nat) : Int)) := by
              rw [hfr j _ (u64v_get (by rw [frQ_len]; omega))]
              unfold frQ
              rw [getD_of (x := 16 + q.1.o + 8) (by rw [List.getElem?_map, hq]; rfl)]
            have CFq := Lib.hid (CF.out wr (u64R (.slice (some ⟨fg, fo, none⟩) Q.length fc) Q.length (frQ Q) :: base w :: []) h m l (16 + q.1.o + 8) (by omega) (HX.re 3 [1, 0, 2]))
            have HFREE := Lib.hid fun hl => hQ.out.free hq0 (hl := hl)
            obtain ⟨a, ha⟩ : ∃ a, 16 + q.1.o + 8 = a := ⟨_, rfl⟩
            rw [ha] at c0 CFq HFREE
            have hE : freeE (idxOf (isAt 16 a) l) = 0 := by
              have := (free_used (base := 16) hQ.out.lay (hQ.out.mem (List.mem_of_getElem? hq0))).1
              rw [ha] at this
              exact this
            rw [hE] at CFq
            clear hfr hqb ha hE hq
            go_wp2_with fail
            refine CFq.out.mono ?_
            rintro en w5 ⟨rfl, H5⟩
            have HQ' := HFREE.out (heapA_lay H5)
            have HQ2 : Hid (QOk n (Q.drop (j + 1)) (freeL (isAt 16 a) l)) := Lib.hid (by
              have := HQ'.2.1
              have e1 : (Q.drop j).eraseIdx 0 = Q.drop (j + 1) := by rw [List.eraseIdx_zero, List.tail_drop]
              rw [e1] at this
              exact this)
            have H6 := Lib.hid (H5.swap)
            clear CFq HFREE HX hQ H5 HQ' c0 hq0
            go_wp2_with fail
            go_roundw
            case rel => exact ⟨j + 1, _, by omega, by go_num, HQ2, H6.out⟩
            case measure => simp [Go.RowKit.intOf]; omega
          · obtain rfl : j = Q.length := by omega
            have hl1 : l = [⟨0, n, false⟩] := by
              have := hQ.out
              rw [List.drop_length] at this
              exact this.nil hnb1
            subst hl1
            have CBq := Lib.hid (CB.out wr (base w :: []) h m _ HX.drop)
            clear hQ HX
            go_wp2_with fail
            refine CBq.out.mono ?_
            rintro en w5 ⟨v, rfl, H5⟩
            obtain ⟨va, vc, rfl⟩ := row_shape H5
            obtain ⟨bg, bo, rfl, hbr⟩ := (row.reads H5).at (by simp)
            have c0 : w5.cell? ⟨bg, bo, none⟩ = some (.int .u64 24) := hbr 0 _ rfl
            have c1 : w5.cell? ⟨bg, bo + 1, none⟩ = some (.int .i64 n) := hbr 1 _ rfl
            have c2 : w5.cell? ⟨bg, bo + 2, none⟩ = some (.bool false) := hbr 2 _ rfl
            have H6 := H5.drop.drop
            clear hbr CBq H5
            go_wp2_with fail
            refine (CLv.out _ _ H6).mono ?_
            rintro en w6 ⟨rfl, H7⟩
            go_wp2_with fail
            go_ret
            exact ⟨rfl, HBL.out _ _ H7⟩
end Go.Proofs.Ytjbphdjheklhbaa
