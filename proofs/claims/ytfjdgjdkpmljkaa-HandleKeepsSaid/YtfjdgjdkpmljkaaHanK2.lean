/-
  HandleKeeps: the walk.
-/
import Derived.Test.YtfjdgjdkpmljkaaHanK
namespace Go.Proofs.Ytfjdgjdkpmljkaa
open Go.RowKit

set_option maxRecDepth 100000 in
set_option maxHeartbeats 1000000 in
theorem handleKeeps_walk (W : World) (v : Value) (n : Nat) (zs : List Int) (hl : zs.length = n * 3) (hr : Reads W v 3 n (ints zs)) (K hh : Int) (P : PlaceS)
    (hK0 : -9223372036854775808 ≤ K) (hK1 : K ≤ 9223372036854775807) :
    Calls Try.prog 4 #[v, .agg #[.int .i64 K, .int .i64 hh, .int .i64 P.page, .int .i64 P.obj, .int .i64 P.len]] W fun e w' => e = .returned (.bool true) ∧ Below W.heap.size W w' := by
  have H0 := Holds.start W
  generalize hE : (⟨W.os, W.output, W.tape⟩ : Env) = E at *
  have hbel : ∀ w' A, Holds E w' (base W :: A) → Below W.heap.size W w' := fun w' A h => by subst hE; exact h.below rfl rfl rfl
  clear hE
  obtain ⟨ad, c, rfl⟩ := hr.shape
  have H1 := H0.alloc (.cells #[.int .i64 K, .int .i64 hh, .int .i64 P.page, .int .i64 P.obj, .int .i64 P.len] 39)
  by_cases hbig : 60 < n
  · go_enter Try.func4, Try.ntmps4
    go_wp2_with fail
    refine (lives19 H1).mono ?_
    rintro e w1 ⟨rfl, H2⟩
    go_wp2
    go_ret
    exact ⟨rfl, hbel _ _ H2.drop⟩
  · have hcell := flat_at hr hl
    clear hr hl
    go_enter Try.func4, Try.ntmps4
    go_wp2_with fail
    refine (tabNew_any H1).mono ?_
    rintro e w1 ⟨b, rfl, H2⟩
    rw [← tabList_nil] at H2
    generalize hbd : W.heap.size = bd at *
    have HBD := Lib.hid hbd; clear hbd
    go_wp2
    go_loopw [6] (fun i wr => ∃ k : Nat, k ≤ n ∧ i = .int .i64 (k : Nat) ∧ Holds E wr [pts b (tabList (okL (placesOf zs k))).obj, pts bd (.cells #[.int .i64 K, .int .i64 hh, .int .i64 P.page, .int .i64 P.obj, .int .i64 P.len] 39 (0, 0)), base W]) (fun i _ => n - (intOf i).toNat)
    case atStart => exact ⟨0, by omega, rfl, H2⟩
    case round =>
      obtain ⟨k, hk, rfl, HH⟩ := hrel
      by_cases hlt : k < n
      · obtain ⟨bb, oo, rfl, hbb, hc⟩ := hcell k 0 hlt (by omega)
        have hc0 : wr.cell? ⟨bb, oo + k * 3, none⟩ = some (.int .i64 (zs.getD (k * 3 + 0) 0)) := by rw [← hc 0 (by omega)]; exact World.cell?_of_block (w := W) (HH.drop.drop.baseE (by rw [HBD.out]; exact hbb))
        have hc1 : wr.cell? ⟨bb, oo + k * 3 + 1, none⟩ = some (.int .i64 (zs.getD (k * 3 + 1) 0)) := by rw [← hc 1 (by omega)]; exact World.cell?_of_block (w := W) (HH.drop.drop.baseE (by rw [HBD.out]; exact hbb))
        have hc2 : wr.cell? ⟨bb, oo + k * 3 + 2, none⟩ = some (.int .i64 (zs.getD (k * 3 + 2) 0)) := by rw [← hc 2 (by omega)]; exact World.cell?_of_block (w := W) (HH.drop.drop.baseE (by rw [HBD.out]; exact hbb))
        have hstep := tabList_step (placesOf zs k) ⟨zs.getD (k * 3 + 0) 0, zs.getD (k * 3 + 1) 0, zs.getD (k * 3 + 2) 0⟩ (by rw [placesOf_length]; omega)
        rw [← placesOf_succ] at hstep
        have hol := okL_length (placesOf zs k)
        rw [placesOf_length] at hol
        have c1 := hmake HH ⟨zs.getD (k * 3 + 0) 0, zs.getD (k * 3 + 1) 0, zs.getD (k * 3 + 2) 0⟩ (by simp [tabList]) (by simp [tabList]; omega)
        rw [hstep] at c1
        clear hcell hc hstep
        generalize zs.getD (k * 3 + 0) 0 = x0 at *
        generalize zs.getD (k * 3 + 1) 0 = x1 at *
        generalize zs.getD (k * 3 + 2) 0 = x2 at *
        go_wp2_with fail
        refine c1.mono ?_
        rintro e w2 ⟨rfl, H3⟩
        clear c1
        go_wp2
        go_roundw
        case rel => exact ⟨k + 1, by omega, by go_num, H3⟩
        case measure => simp [intOf]; omega
      · obtain rfl : k = n := by omega
        have hL := okL_ok (placesOf zs k)
        have hLl := okL_length (placesOf zs k)
        rw [placesOf_length] at hLl
        generalize okL (placesOf zs k) = L at *
        have HL := Lib.hid hL
        clear hcell hlt hL
        go_wp2_with fail
        refine (retQ (hlen_ok HH) HH).mono ?_
        rintro e w2 ⟨rfl, H3⟩
        rw [show (tabList L).many = (L.length : Int) from rfl]
        go_wp2
        go_loopw [8, 9] (fun v i wr => ∃ k : Nat, k ≤ L.length ∧ i = .int .i64 ((k : Int) + 1) ∧ Holds E wr [row v 24 3 k (placeCells (L.take k)), pts b (tabList L).obj, pts bd (.cells #[.int .i64 K, .int .i64 hh, .int .i64 P.page, .int .i64 P.obj, .int .i64 P.len] 39 (0, 0)), base W]) (fun _ i _ => L.length + 1 - (intOf i).toNat)
        case atStart => exact ⟨0, by omega, rfl, row.nil _ _ H3⟩
        case round =>
          obtain ⟨k', hk', rfl, HW⟩ := hrel
          by_cases hlt : k' < L.length
          · have hg : (tabList L).get ((k' : Int) + 1) = (L.getD k' PlaceS.zero, true) := by
              have := tabList_get HL.out (by omega) (h := k' + 1) (by omega) (by omega)
              simpa using this
            have ht : placeCells (L.take (k' + 1)) = placeCells (L.take k') ++ placeCells [L.getD k' PlaceS.zero] := by
              rw [← placeCells_append, List.take_succ_eq_append_getElem hlt]
              simp [List.getD, List.getElem?_eq_getElem hlt]
            have HT := Lib.hid ht
            clear ht
            have c1 := hget HW.swap ((k' : Int) + 1)
            rw [hg] at c1
            clear hg
            generalize L.getD k' PlaceS.zero = q at *
            unfold PlaceS.val at c1
            go_wp2_with fail
            refine c1.mono ?_
            rintro e w3 ⟨rfl, H4⟩
            clear c1
            have H4a := (Holds.alloc H4 (.cells #[.int .i64 q.page, .int .i64 q.obj, .int .i64 q.len] 24))
            go_wp2_with (at_builtin; refine wpList_append_sl rfl _ _ _ rfl 24 3 24 elem_place _ _ (placeCells (L.take k')) rfl ((H4a.alloc _).take (Take.there _ (Take.there _ (Take.there _ (Take.here _ _))))) _ 1 (placeCells [q]) rfl ?_ (placeCells_one _) ?_ ?_ ?_)
            · exact row.reads (row.made (Holds.allocAt H4a (by simp)) (Nat.le_refl _) (by decide) rfl rfl)
            · unfold maxLen; omega
            · omega
            intro v' w4 H5
            go_wp2
            go_roundw
            case rel => exact ⟨k' + 1, by omega, by go_num, by rw [HT.out]; exact H5.swap.drop.swap.drop⟩
            case measure => simp [intOf]; omega
          · obtain rfl : k' = L.length := by omega
            rw [List.take_length] at HW
            obtain ⟨ad2, c2, rfl⟩ := (row.reads HW).shape
            have HWb := HW.swap
            have hcd := (HW.take (Take.there _ (Take.there _ (Take.here _ _)))).cells
            by_cases hK : K = 0 ∨ K = 1
            · have hKs : (K == 0) = true ∨ ((K == 0) = false ∧ (K == 1) = true) := by rcases hK with rfl | rfl <;> simp
              clear hK
              have c1 := hmake HWb P (by simp [tabList]) (by simp [tabList]; omega)
              unfold PlaceS.val at c1
              rcases hKs with g0 | ⟨g0, g1⟩
              all_goals
                go_wp2_with fail
                refine c1.mono ?_
                rintro e w5 ⟨rfl, H6⟩
                clear c1 hcd
                have kp := keeps_make HL.out (by omega) P ((tabList L).make P).1.1
                have mp := Lib.hid (made_make HL.out (by omega) P)
                generalize ((tabList L).make P).1.1 = md at *
                generalize ((tabList L).make P).2 = t' at *
                have HKp := Lib.hid kp
                have HMp := mp
                have HH0 := H6.swap
                go_wp2
                go_loopw [13] (fun i wr => ∃ k : Nat, k ≤ L.length ∧ i = .int .i64 ((k : Int) + 1) ∧ Holds E wr [row (.slice ad2 L.length c2) 24 3 L.length (placeCells L), pts b t'.obj, pts bd (.cells #[.int .i64 K, .int .i64 hh, .int .i64 P.page, .int .i64 P.obj, .int .i64 P.len] 39 (0, 0)), base W]) (fun i _ => L.length + 1 - (intOf i).toNat)
                case atStart => exact ⟨0, by omega, rfl, HH0⟩
                case round =>
                  obtain ⟨k, hk, rfl, HH⟩ := hrel
                  by_cases hlt : k < L.length
                  · have hrd := row.reads HH
                    obtain ⟨g, o, rfl, _⟩ := hrd.at (by omega)
                    obtain ⟨p0, p1, p2⟩ := reads_place hrd hlt
                    have hgl := World.block_lt_of_cell? _ _ p0
                    by_cases hmk : (k : Int) + 1 = md
                    · have hne : ((k : Int) + 1 != md) = false := by simp [hmk]
                      clear hmk p0 p1 p2 hrd
                      go_wp2_with fail
                      refine (hget HH.swap ((k : Int) + 1)).mono ?_
                      rintro e w6 ⟨rfl, H7⟩
                      generalize (t'.get ((k : Int) + 1)).1 = q at *
                      generalize (t'.get ((k : Int) + 1)).2 = okq at *
                      unfold PlaceS.val
                      have H7a := (H7.alloc (.cells #[.int .i64 q.page, .int .i64 q.obj, .int .i64 q.len] 24))
                      go_wp2
                      go_quiet (fail)
                      go_wp2
                      go_roundw
                      case rel => exact ⟨k + 1, by omega, by go_num, (H7a.drop.swap).drewN _⟩
                      case measure => simp [intOf]; omega
                    · have hne : ((k : Int) + 1 != md) = true := by simp [hmk]
                      have hgt : t'.get ((k : Int) + 1) = (L.getD k PlaceS.zero, true) := by
                        have := HKp.out (k + 1) (by omega) (by omega) (by have := hmk; omega)
                        simpa using this
                      have c9 := hget HH.swap ((k : Int) + 1)
                      rw [hgt] at c9
                      clear hgt hmk p0 p1 p2 hrd
                      go_wp2_with fail
                      refine c9.mono ?_
                      rintro e w6 ⟨rfl, H7⟩
                      clear c9
                      obtain ⟨p0, p1, p2⟩ := reads_place (row.reads H7.swap) hlt
                      have hgl := World.block_lt_of_cell? _ _ p0
                      generalize L.getD k PlaceS.zero = q at *
                      unfold PlaceS.val
                      have H7a := (H7.alloc (.cells #[.int .i64 q.page, .int .i64 q.obj, .int .i64 q.len] 24))
                      go_wp2
                      go_quiet (fail)
                      go_wp2
                      go_roundw
                      case rel => exact ⟨k + 1, by omega, by go_num, (H7a.drop.swap).drewN _⟩
                      case measure => simp [intOf]; omega
                  · have hcz := (HH.take (Take.there _ (Take.there _ (Take.here _ _)))).cells
                    by_cases hmd : 0 < md
                    · have c9 := hget HH.swap md
                      rw [HMp.out hmd] at c9
                      unfold PlaceS.val at c9
                      go_wp2_with fail
                      refine c9.mono ?_
                      rintro e w6 ⟨rfl, H7⟩
                      clear c9
                      have hcz7 := (H7.take (Take.there _ (Take.there _ (Take.here _ _)))).cells
                      have hlt7 := (H7.take (Take.there _ (Take.there _ (Take.here _ _)))).lt
                      have H7a := (H7.alloc (.cells #[.int .i64 P.page, .int .i64 P.obj, .int .i64 P.len] 24)).drop.swap
                      go_wp2_with fail
                      refine (lives19 H7a).mono ?_
                      rintro e w8 ⟨rfl, H8⟩
                      go_wp2
                      go_ret
                      exact ⟨rfl, by rw [HBD.out] at *; exact hbel _ _ H8.drop.drop.drop⟩
                    · go_wp2_with fail
                      refine (lives19 HH).mono ?_
                      rintro e w8 ⟨rfl, H8⟩
                      go_wp2
                      go_ret
                      exact ⟨rfl, by rw [HBD.out] at *; exact hbel _ _ H8.drop.drop.drop⟩
            · have g0 : (K == 0) = false := by simp; omega
              have g1 : (K == 1) = false := by simp; omega
              by_cases hK2 : K = 2
              · have g2 : (K == 2) = true := by simp [hK2]
                clear hK hK2
                go_wp2_with fail
                refine (hdrop HWb hh (by simp [tabList]) (by simp [tabList]; omega)).mono ?_
                rintro e w5 ⟨rfl, H6⟩
                generalize ((tabList L).drop hh).1.1 = dq at *
                unfold PlaceS.val
                have hcd5 := (H6.take (Take.there _ (Take.there _ (Take.here _ _)))).cells
                clear hcd
                have kp := keeps_drop HL.out (by omega) hh
                generalize ((tabList L).drop hh).2 = t' at *
                have HKp := Lib.hid kp
                have HMp := trivial
                have HH0 := H6.swap
                go_wp2
                go_loopw [13] (fun i wr => ∃ k : Nat, k ≤ L.length ∧ i = .int .i64 ((k : Int) + 1) ∧ Holds E wr [row (.slice ad2 L.length c2) 24 3 L.length (placeCells L), pts b t'.obj, pts bd (.cells #[.int .i64 K, .int .i64 hh, .int .i64 P.page, .int .i64 P.obj, .int .i64 P.len] 39 (0, 0)), base W]) (fun i _ => L.length + 1 - (intOf i).toNat)
                case atStart => exact ⟨0, by omega, rfl, HH0⟩
                case round =>
                  obtain ⟨k, hk, rfl, HH⟩ := hrel
                  by_cases hlt : k < L.length
                  · have hrd := row.reads HH
                    obtain ⟨g, o, rfl, _⟩ := hrd.at (by omega)
                    obtain ⟨p0, p1, p2⟩ := reads_place hrd hlt
                    have hgl := World.block_lt_of_cell? _ _ p0
                    by_cases hmk : (k : Int) + 1 = hh
                    · have hne : ((k : Int) + 1 != hh) = false := by simp [hmk]
                      clear hmk p0 p1 p2 hrd
                      go_wp2_with fail
                      refine (hget HH.swap ((k : Int) + 1)).mono ?_
                      rintro e w6 ⟨rfl, H7⟩
                      generalize (t'.get ((k : Int) + 1)).1 = q at *
                      generalize (t'.get ((k : Int) + 1)).2 = okq at *
                      unfold PlaceS.val
                      have H7a := (H7.alloc (.cells #[.int .i64 q.page, .int .i64 q.obj, .int .i64 q.len] 24))
                      go_wp2
                      go_quiet (fail)
                      go_wp2
                      go_roundw
                      case rel => exact ⟨k + 1, by omega, by go_num, (H7a.drop.swap).drewN _⟩
                      case measure => simp [intOf]; omega
                    · have hne : ((k : Int) + 1 != hh) = true := by simp [hmk]
                      have hgt : t'.get ((k : Int) + 1) = (L.getD k PlaceS.zero, true) := by
                        have := HKp.out (k + 1) (by omega) (by omega) (by have := hmk; omega)
                        simpa using this
                      have c9 := hget HH.swap ((k : Int) + 1)
                      rw [hgt] at c9
                      clear hgt hmk p0 p1 p2 hrd
                      go_wp2_with fail
                      refine c9.mono ?_
                      rintro e w6 ⟨rfl, H7⟩
                      clear c9
                      obtain ⟨p0, p1, p2⟩ := reads_place (row.reads H7.swap) hlt
                      have hgl := World.block_lt_of_cell? _ _ p0
                      generalize L.getD k PlaceS.zero = q at *
                      unfold PlaceS.val
                      have H7a := (H7.alloc (.cells #[.int .i64 q.page, .int .i64 q.obj, .int .i64 q.len] 24))
                      go_wp2
                      go_quiet (fail)
                      go_wp2
                      go_roundw
                      case rel => exact ⟨k + 1, by omega, by go_num, (H7a.drop.swap).drewN _⟩
                      case measure => simp [intOf]; omega
                  · have hcz := (HH.take (Take.there _ (Take.there _ (Take.here _ _)))).cells
                    by_cases hmd : 0 < hh
                    · go_wp2_with fail
                      refine (lives19 HH).mono ?_
                      rintro e w8 ⟨rfl, H8⟩
                      go_wp2
                      go_ret
                      exact ⟨rfl, by rw [HBD.out] at *; exact hbel _ _ H8.drop.drop.drop⟩
                    · go_wp2_with fail
                      refine (lives19 HH).mono ?_
                      rintro e w8 ⟨rfl, H8⟩
                      go_wp2
                      go_ret
                      exact ⟨rfl, by rw [HBD.out] at *; exact hbel _ _ H8.drop.drop.drop⟩
              · have g2 : (K == 2) = false := by simp; omega
                by_cases hK3 : K = 3
                · have g3 : (K == 3) = true := by simp [hK3]
                  clear hK hK2 hK3
                  have c1 := hset HWb hh P
                  unfold PlaceS.val at c1
                  go_wp2_with fail
                  refine c1.mono ?_
                  rintro e w5 ⟨rfl, H6⟩
                  have hcd5 := (H6.take (Take.there _ (Take.there _ (Take.here _ _)))).cells
                  clear hcd c1
                  have kp := keeps_set HL.out (by omega) hh P
                  generalize ((tabList L).set hh P).2 = t' at *
                  have HKp := Lib.hid kp
                  have HMp := trivial
                  have HH0 := H6.swap
                  go_wp2
                  go_loopw [13] (fun i wr => ∃ k : Nat, k ≤ L.length ∧ i = .int .i64 ((k : Int) + 1) ∧ Holds E wr [row (.slice ad2 L.length c2) 24 3 L.length (placeCells L), pts b t'.obj, pts bd (.cells #[.int .i64 K, .int .i64 hh, .int .i64 P.page, .int .i64 P.obj, .int .i64 P.len] 39 (0, 0)), base W]) (fun i _ => L.length + 1 - (intOf i).toNat)
                  case atStart => exact ⟨0, by omega, rfl, HH0⟩
                  case round =>
                    obtain ⟨k, hk, rfl, HH⟩ := hrel
                    by_cases hlt : k < L.length
                    · have hrd := row.reads HH
                      obtain ⟨g, o, rfl, _⟩ := hrd.at (by omega)
                      obtain ⟨p0, p1, p2⟩ := reads_place hrd hlt
                      have hgl := World.block_lt_of_cell? _ _ p0
                      by_cases hmk : (k : Int) + 1 = hh
                      · have hne : ((k : Int) + 1 != hh) = false := by simp [hmk]
                        clear hmk p0 p1 p2 hrd
                        go_wp2_with fail
                        refine (hget HH.swap ((k : Int) + 1)).mono ?_
                        rintro e w6 ⟨rfl, H7⟩
                        generalize (t'.get ((k : Int) + 1)).1 = q at *
                        generalize (t'.get ((k : Int) + 1)).2 = okq at *
                        unfold PlaceS.val
                        have H7a := (H7.alloc (.cells #[.int .i64 q.page, .int .i64 q.obj, .int .i64 q.len] 24))
                        go_wp2
                        go_quiet (fail)
                        go_wp2
                        go_roundw
                        case rel => exact ⟨k + 1, by omega, by go_num, (H7a.drop.swap).drewN _⟩
                        case measure => simp [intOf]; omega
                      · have hne : ((k : Int) + 1 != hh) = true := by simp [hmk]
                        have hgt : t'.get ((k : Int) + 1) = (L.getD k PlaceS.zero, true) := by
                          have := HKp.out (k + 1) (by omega) (by omega) (by have := hmk; omega)
                          simpa using this
                        have c9 := hget HH.swap ((k : Int) + 1)
                        rw [hgt] at c9
                        clear hgt hmk p0 p1 p2 hrd
                        go_wp2_with fail
                        refine c9.mono ?_
                        rintro e w6 ⟨rfl, H7⟩
                        clear c9
                        obtain ⟨p0, p1, p2⟩ := reads_place (row.reads H7.swap) hlt
                        have hgl := World.block_lt_of_cell? _ _ p0
                        generalize L.getD k PlaceS.zero = q at *
                        unfold PlaceS.val
                        have H7a := (H7.alloc (.cells #[.int .i64 q.page, .int .i64 q.obj, .int .i64 q.len] 24))
                        go_wp2
                        go_quiet (fail)
                        go_wp2
                        go_roundw
                        case rel => exact ⟨k + 1, by omega, by go_num, (H7a.drop.swap).drewN _⟩
                        case measure => simp [intOf]; omega
                    · have hcz := (HH.take (Take.there _ (Take.there _ (Take.here _ _)))).cells
                      by_cases hmd : 0 < hh
                      · go_wp2_with fail
                        refine (lives19 HH).mono ?_
                        rintro e w8 ⟨rfl, H8⟩
                        go_wp2
                        go_ret
                        exact ⟨rfl, by rw [HBD.out] at *; exact hbel _ _ H8.drop.drop.drop⟩
                      · go_wp2_with fail
                        refine (lives19 HH).mono ?_
                        rintro e w8 ⟨rfl, H8⟩
                        go_wp2
                        go_ret
                        exact ⟨rfl, by rw [HBD.out] at *; exact hbel _ _ H8.drop.drop.drop⟩
                · have g3 : (K == 3) = false := by simp; omega
                  clear hK hK2 hK3
                  have kp := keeps_same HL.out (by omega) 0
                  generalize tabList L = t' at *
                  have HKp := Lib.hid kp
                  have HMp := trivial
                  have HH0 := HW
                  go_wp2
                  go_loopw [13] (fun i wr => ∃ k : Nat, k ≤ L.length ∧ i = .int .i64 ((k : Int) + 1) ∧ Holds E wr [row (.slice ad2 L.length c2) 24 3 L.length (placeCells L), pts b t'.obj, pts bd (.cells #[.int .i64 K, .int .i64 hh, .int .i64 P.page, .int .i64 P.obj, .int .i64 P.len] 39 (0, 0)), base W]) (fun i _ => L.length + 1 - (intOf i).toNat)
                  case atStart => exact ⟨0, by omega, rfl, HH0⟩
                  case round =>
                    obtain ⟨k, hk, rfl, HH⟩ := hrel
                    by_cases hlt : k < L.length
                    · have hrd := row.reads HH
                      obtain ⟨g, o, rfl, _⟩ := hrd.at (by omega)
                      obtain ⟨p0, p1, p2⟩ := reads_place hrd hlt
                      have hgl := World.block_lt_of_cell? _ _ p0
                      have hmk : (k : Int) + 1 ≠ 0 := by omega
                      have hne : ((k : Int) + 1 != 0) = true := by simp; omega
                      have hgt : t'.get ((k : Int) + 1) = (L.getD k PlaceS.zero, true) := by
                        have := HKp.out (k + 1) (by omega) (by omega) (by have := hmk; omega)
                        simpa using this
                      have c9 := hget HH.swap ((k : Int) + 1)
                      rw [hgt] at c9
                      clear hgt hmk p0 p1 p2 hrd
                      go_wp2_with fail
                      refine c9.mono ?_
                      rintro e w6 ⟨rfl, H7⟩
                      clear c9
                      obtain ⟨p0, p1, p2⟩ := reads_place (row.reads H7.swap) hlt
                      have hgl := World.block_lt_of_cell? _ _ p0
                      generalize L.getD k PlaceS.zero = q at *
                      unfold PlaceS.val
                      have H7a := (H7.alloc (.cells #[.int .i64 q.page, .int .i64 q.obj, .int .i64 q.len] 24))
                      go_wp2
                      go_quiet (fail)
                      go_wp2
                      go_roundw
                      case rel => exact ⟨k + 1, by omega, by go_num, (H7a.drop.swap).drewN _⟩
                      case measure => simp [intOf]; omega
                    · have hcz := (HH.take (Take.there _ (Take.there _ (Take.here _ _)))).cells
                      go_wp2_with fail
                      refine (lives19 HH).mono ?_
                      rintro e w8 ⟨rfl, H8⟩
                      go_wp2
                      go_ret
                      exact ⟨rfl, by rw [HBD.out] at *; exact hbel _ _ H8.drop.drop.drop⟩


set_option maxRecDepth 100000 in
theorem handleKeeps_arg (W : World) (v0 v1 : Value) (a0 : Arg Try.prog W 37 v0) (a1 : Arg Try.prog W 39 v1) :
    Calls Try.prog 4 #[v0, v1] W fun e w' => e = .returned (.bool true) ∧ Below W.heap.size W w' := by
  obtain ⟨n, xs, hr, _, hf⟩ := a0.slice Try.underlying37
  have h3 : Try.prog.cellsOf 24 = 3 := by kernel_rfl
  rw [h3] at hr hf
  obtain ⟨zs, rfl, hl, _⟩ := arg_flatInts hr hf (fun j hj => by
    match j, hj with
    | 0, _ => exact ⟨3, by kernel_rfl, Try.underlying3⟩
    | 1, _ => exact ⟨3, by kernel_rfl, Try.underlying3⟩
    | 2, _ => exact ⟨3, by kernel_rfl, Try.underlying3⟩)
  obtain ⟨ds, rfl, hds⟩ := struct_ints a1 Try.underlying39 (n := 5) (by kernel_rfl) (fun j hj => by
    match j, hj with
    | 0, _ => exact ⟨3, by kernel_rfl, Try.underlying3⟩
    | 1, _ => exact ⟨3, by kernel_rfl, Try.underlying3⟩
    | 2, _ => exact ⟨3, by kernel_rfl, Try.underlying3⟩
    | 3, _ => exact ⟨3, by kernel_rfl, Try.underlying3⟩
    | 4, _ => exact ⟨3, by kernel_rfl, Try.underlying3⟩)
  obtain ⟨hdl, hdw⟩ := hds
  match ds, hdl with
  | [k, h, x, y, z], _ =>
    have wk := wf_i64 (hdw k (by simp))
    exact handleKeeps_walk W v0 _ zs hl hr k h ⟨x, y, z⟩ wk.1 wk.2

end Go.Proofs.Ytfjdgjdkpmljkaa
