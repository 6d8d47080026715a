/-
  LruPlays: the walk.
-/
import Derived.Test.YtfjdgjdkpmljkaaLru5
namespace Go.Proofs.Ytfjdgjdkpmljkaa
open Go.RowKit Go.Shelf



set_option maxRecDepth 100000 in
set_option maxHeartbeats 8000000 in
theorem lruPlays_walk (W : World) (ad : Option Addr) (n c : Nat) (D : List Deed) (hn : n ≤ 4611686018427387904) (hD : Deeds W ad n D) (m x : Int) :
    Calls Try.prog 14 #[.slice ad n c, .int .i64 m, .int .i64 x] W fun e w' => e = .returned (.bool true) ∧ Below W.heap.size W w' := by
  have H0 := Holds.start W
  generalize hE : (⟨W.os, W.output, W.tape⟩ : Env) = E at *
  have hbel : ∀ w' A, Holds E w' (base W :: A) → Below W.heap.size W w' := fun w' A h => by subst hE; exact h.below rfl rfl rfl
  clear hE
  have hgr : Hid (∀ w', Holds E w' [base W] → Calls Try.prog 59 #[.slice ad n c] w' (Quiet w' (.bool (greatB D)))) := Lib.hid fun w' h => great_any ad n c D hn ⟨hD.1, fun i hi => by
    obtain ⟨b, o, v, h1, h2, h3, h4, h5⟩ := hD.2 i hi
    exact ⟨b, o, v, h1, Nat.lt_of_lt_of_le h2 h.baseSize, by rw [← h3]; exact World.cell?_of_block (w := W) (h.baseE h2), by rw [← h4]; exact World.cell?_of_block (w := W) (h.baseE h2), h5.based h⟩⟩
  have HD := Lib.hid hD
  clear hD
  go_enter Try.func14, Try.ntmps14
  go_wp2_with fail
  refine (lruNewer_nil H0 1).mono ?_
  rintro e w1 ⟨rfl, H1⟩
  go_wp2_with fail
  refine (lruAdd_nil (R := pts w1.heap.size (.cells (ints [1]).toArray 3 (0, 0)) :: [base W]) (H1.alloc _) [1] _ 1 (by decide) (fun w' h => row.reads (row.made h (Nat.le_refl _) (by decide) rfl rfl))).mono ?_
  rintro e w2 ⟨rfl, H2a⟩
  have H2 := H2a.drop
  clear H0 H1 H2a
  go_wp2_with fail
  refine (lruRemove_nil (R := pts w2.heap.size (.cells (ints [1]).toArray 3 (0, 0)) :: [base W]) (H2.alloc _) [1] _ 1 (by decide) (fun w' h => row.reads (row.made h (Nat.le_refl _) (by decide) rfl rfl))).mono ?_
  rintro e w3 ⟨rfl, H3a⟩
  have H3 := H3a.drop
  clear H2 H3a
  go_wp2_with fail
  refine (lruIn_nil H3 1).mono ?_
  rintro e w4 ⟨rfl, H4⟩
  go_wp2_with fail
  refine (lruLen_nil H4).mono ?_
  rintro e w5 ⟨rfl, H5⟩
  go_wp2_with fail
  refine (lruOldest_nil H5 3).mono ?_
  rintro e w6 ⟨rfl, H6⟩
  go_wp2_with fail
  refine (retQ (hgr.out _ H6) H6).mono ?_
  rintro e w7 ⟨rfl, H7⟩
  clear H3 H4 H5 H6 hgr
  cases hg : greatB D with
  | true =>
    clear hg
    go_wp2_with fail
    refine (lives25 H7).mono ?_
    rintro e w8 ⟨rfl, H8⟩
    go_wp2
    go_ret
    exact ⟨rfl, hbel _ _ H8⟩
  | false =>
    obtain ⟨hn40, hn60⟩ := greatB_false hg
    rw [HD.out.1] at hn40 hn60
    clear hg
    have HN := Lib.hid hn60
    clear hn60
    go_wp2_with fail
    refine (lruNew H7).mono ?_
    rintro e w8 ⟨ob, rfl, H8a⟩
    have H8 : Holds E w8 [lruH ob [], row (.slice none 0 0) 3 1 ([] : List Nat).length (ints (nats [])), base W] := (row.nil _ 1 H8a).swap
    clear H7 H8a
    go_wp2
    go_loopw [11, 12] (fun q i wr => ∃ (k : Nat) (L : List Nat) (v : Value), k ≤ n ∧ i = .int .i64 (k : Nat) ∧ q = v ∧ Holds E wr [lruH ob L, row v 3 1 L.length (ints (nats L)), base W]) (fun _ i _ => n - (intOf i).toNat)
    case atStart => exact ⟨0, [], .slice none 0 0, by omega, rfl, rfl, H8⟩
    case round =>
      obtain ⟨k, L, vx, hk, rfl, rfl, HH⟩ := hrel
      obtain ⟨ax, cx, rfl⟩ := row_shape HH.swap
      by_cases hlt : k < n
      · obtain ⟨bb, oo, vv, rfl, hbb, hc1, hc2, hrd⟩ := HD.out.2 k hlt
        have h60 := HN.out k hlt
        have hlf := (lru_facts HH).2.2
        have hcw : Hid (∀ w' X Y, Holds E w' [X, Y, base W] → w'.cell? ⟨bb, oo + k * 2, none⟩ = some (.bool (D.getD k (false, [])).1) ∧ w'.cell? ⟨bb, oo + k * 2 + 1, none⟩ = some vv) := Lib.hid fun w' X Y h => ⟨by rw [← hc1]; exact World.cell?_of_block (w := W) (h.drop.drop.baseE hbb), by rw [← hc2]; exact World.cell?_of_block (w := W) (h.drop.drop.baseE hbb)⟩
        clear hc1 hc2
        generalize (D.getD k (false, [])).2 = zs at *
        generalize (D.getD k (false, [])).1 = out at *
        have hc1 := (hcw.out _ _ _ HH).1
        have hc2 := (hcw.out _ _ _ HH).2
        obtain ⟨av, cv, rfl⟩ := hrd.shape
        have HRD := Lib.hid hrd
        clear hrd
        cases out with
        | true =>
          have cr := refRemove HH.swap (by omega) zs (.slice av zs.length cv) zs.length (by omega) (fun w' h => HRD.out.based h.drop)
          go_wp2_with fail
          refine cr.mono ?_
          rintro e w2 ⟨v2, rfl, H2⟩
          clear cr hc1 hc2
          obtain ⟨a2, c2, rfl⟩ := row_shape H2
          have hc2 := (hcw.out _ _ _ H2).2
          have cr := lruRemove H2.swap zs (.slice av zs.length cv) zs.length (by omega) (fun w' h => HRD.out.based h.drop)
          go_wp2_with fail
          refine cr.mono ?_
          rintro e w3 ⟨rfl, H4⟩
          clear cr hc2 hlf
          generalize (remL L zs).2 = qq at *
          generalize (remL L zs).1 = L2 at *
          obtain ⟨hnd2, _, hl2⟩ := lru_facts H4
          have co : Hid (∀ w', Holds E w' (lruH ob L2 :: row (.slice a2 L2.length c2) 3 1 L2.length (ints (nats L2)) :: [base W]) → Calls Try.prog 58 #[.pointer (some ⟨ob, 0, none⟩), .int .i64 1000] w' (RetEx E (fun v : Value => v) (fun v => row v 3 1 L2.length (ints (nats L2)) :: lruH ob L2 :: row (.slice a2 L2.length c2) 3 1 L2.length (ints (nats L2)) :: [base W]))) := Lib.hid fun w' h => by
            have := lruOldest_ok h 1000 (by decide)
            rw [takeM_all (.inr (by omega))] at this
            exact this
          have H5 := H4.swap
          have cat0 : ∀ w', Reads w' (.slice a2 L2.length c2) 1 L2.length (ints (nats L2)) → Calls Try.prog 61 #[.slice a2 L2.length c2, .int .i64 x] w' (Quiet w' (.int .i64 (atI (nats L2) x))) := fun w' hr => at3_any (nats L2) _ x (by rw [nats_length']; omega) (by rw [nats_length']; exact hr)
          have cat := cat0 _ (row.reads H5)
          have cnw : Hid (∀ w', Holds E w' (lruH ob L2 :: row (.slice a2 L2.length c2) 3 1 L2.length (ints (nats L2)) :: [base W]) → _) := Lib.hid fun w' h => lruNewer h x
          have cin : Hid (∀ w', Holds E w' (lruH ob L2 :: row (.slice a2 L2.length c2) 3 1 L2.length (ints (nats L2)) :: [base W]) → _) := Lib.hid fun w' h => lruIn h x
          have hcl : ∀ w', Holds E w' (lruH ob L2 :: row (.slice a2 L2.length c2) 3 1 L2.length (ints (nats L2)) :: [base W]) → ∀ i, i < L2.length → ∃ g, a2 = some ⟨g, 0, none⟩ ∧ w'.cell? ⟨g, i, none⟩ = some (.int .i64 ((L2.getD i 0 : Nat) : Int)) := fun w' h i hi => by
            obtain ⟨_, ⟨_, hh⟩ | ⟨g, cap, cur, hv, _⟩⟩ := row.open h.drop
            · omega
            · cases hv
              obtain ⟨b', o', h1, h2⟩ := (row.reads h.drop).at (by omega)
              cases h1
              have := h2 i _ (ints_get (nats_getI hi))
              rw [Nat.zero_add] at this
              exact ⟨_, rfl, this⟩
          clear cat0
          rcases lru_shape hnd2 x with ⟨e1, e2, e3, e4⟩ | ⟨i, e1, e5, e2, e3, e4⟩ | ⟨i, u, e1, e5, e6, e2, e3, e4⟩
          · rw [e1] at cat
            rw [e2, e3] at cnw
            rw [e4] at cin
            clear e1 e2 e3 e4 hcl hnd2
            go_wp2_with fail
            refine (retQ cat H5).mono ?_
            rintro e w4 ⟨rfl, H6⟩
            go_wp2_with fail
            refine (cnw.out _ H6.swap).mono ?_
            rintro e w5 ⟨rfl, H7⟩
            go_wp2_with fail
            refine (lruLen H7).mono ?_
            rintro e w6 ⟨rfl, H8⟩
            go_wp2_with fail
            refine (lruOldest_any H8 m).mono ?_
            rintro e w7 ⟨v7, rfl, H9⟩
            obtain ⟨a7, c7, rfl⟩ := row_shape H9
            go_wp2_with fail
            refine (refOldest H9.drop.drop m).mono ?_
            rintro e w8 ⟨v8, rfl, hr8, rfl⟩
            obtain ⟨a8, c8, rfl⟩ := hr8.shape
            have ci := retQ (ints_same (nats (oldL m L2)) (.slice a7 (oldL m L2).length c7) (.slice a8 (oldL m L2).length c8) (by rw [nats_length']; exact Nat.le_trans (oldL_len m L2) (by omega)) (by rw [nats_length']; exact row.reads H9) (by rw [nats_length']; exact hr8)) H9
            clear hr8
            go_wp2_with fail
            refine ci.mono ?_
            rintro e w9 ⟨rfl, H10⟩
            clear ci
            have H11 := H10.drop
            go_wp2_with fail
            refine (co.out _ H11).mono ?_
            rintro e w10 ⟨v10, rfl, H12⟩
            obtain ⟨a10, c10, rfl⟩ := row_shape H12
            have ci := retQ (ints_same (nats L2) (.slice a10 L2.length c10) (.slice a2 L2.length c2) (by rw [nats_length']; omega) (by rw [nats_length']; exact row.reads H12) (by rw [nats_length']; exact row.reads H12.drop.drop)) H12
            go_wp2_with fail
            refine ci.mono ?_
            rintro e w11 ⟨rfl, H13⟩
            clear ci
            have H14 := H13.drop
            go_wp2_with fail
            refine (cin.out _ H14).mono ?_
            rintro e w12 ⟨rfl, H15⟩
            go_wp2
            go_roundw
            case rel => exact ⟨k + 1, L2, _, by omega, by go_num, rfl, H15⟩
            case measure => simp [intOf]; omega
          · rw [e1] at cat
            rw [e2, e3] at cnw
            rw [e4] at cin
            have hq : ((i : Int) == (L2.length : Int) - 1) = true := by simp; omega
            clear e1 e2 e3 e4 e5 hcl hnd2
            go_wp2_with fail
            refine (retQ cat H5).mono ?_
            rintro e w4 ⟨rfl, H6⟩
            go_wp2_with fail
            refine (cnw.out _ H6.swap).mono ?_
            rintro e w5 ⟨rfl, H7⟩
            go_wp2_with fail
            refine (lruLen H7).mono ?_
            rintro e w6 ⟨rfl, H8⟩
            go_wp2_with fail
            refine (lruOldest_any H8 m).mono ?_
            rintro e w7 ⟨v7, rfl, H9⟩
            obtain ⟨a7, c7, rfl⟩ := row_shape H9
            go_wp2_with fail
            refine (refOldest H9.drop.drop m).mono ?_
            rintro e w8 ⟨v8, rfl, hr8, rfl⟩
            obtain ⟨a8, c8, rfl⟩ := hr8.shape
            have ci := retQ (ints_same (nats (oldL m L2)) (.slice a7 (oldL m L2).length c7) (.slice a8 (oldL m L2).length c8) (by rw [nats_length']; exact Nat.le_trans (oldL_len m L2) (by omega)) (by rw [nats_length']; exact row.reads H9) (by rw [nats_length']; exact hr8)) H9
            clear hr8
            go_wp2_with fail
            refine ci.mono ?_
            rintro e w9 ⟨rfl, H10⟩
            clear ci
            have H11 := H10.drop
            go_wp2_with fail
            refine (co.out _ H11).mono ?_
            rintro e w10 ⟨v10, rfl, H12⟩
            obtain ⟨a10, c10, rfl⟩ := row_shape H12
            have ci := retQ (ints_same (nats L2) (.slice a10 L2.length c10) (.slice a2 L2.length c2) (by rw [nats_length']; omega) (by rw [nats_length']; exact row.reads H12) (by rw [nats_length']; exact row.reads H12.drop.drop)) H12
            go_wp2_with fail
            refine ci.mono ?_
            rintro e w11 ⟨rfl, H13⟩
            clear ci
            have H14 := H13.drop
            go_wp2_with fail
            refine (cin.out _ H14).mono ?_
            rintro e w12 ⟨rfl, H15⟩
            go_wp2
            go_roundw
            case rel => exact ⟨k + 1, L2, _, by omega, by go_num, rfl, H15⟩
            case measure => simp [intOf]; omega
          · rw [e1] at cat
            rw [e2, e3] at cnw
            rw [e4] at cin
            have hq : ((i : Int) == (L2.length : Int) - 1) = false := by simp; omega
            have hq2 : (i : Int) + 1 < (L2.length : Int) := by omega
            have hcl2 := Lib.hid fun w' h => hcl w' h (i + 1) e5
            rw [e6] at hcl2
            clear e1 e2 e3 e4 e5 e6 hcl hnd2
            go_wp2_with fail
            refine (retQ cat H5).mono ?_
            rintro e w4 ⟨rfl, H6⟩
            go_wp2_with fail
            refine (cnw.out _ H6.swap).mono ?_
            rintro e w5 ⟨rfl, H7⟩
            go_wp2_with fail
            refine (lruLen H7).mono ?_
            rintro e w6 ⟨rfl, H8⟩
            go_wp2_with fail
            refine (lruOldest_any H8 m).mono ?_
            rintro e w7 ⟨v7, rfl, H9⟩
            obtain ⟨a7, c7, rfl⟩ := row_shape H9
            go_wp2_with fail
            refine (refOldest H9.drop.drop m).mono ?_
            rintro e w8 ⟨v8, rfl, hr8, rfl⟩
            obtain ⟨a8, c8, rfl⟩ := hr8.shape
            have ci := retQ (ints_same (nats (oldL m L2)) (.slice a7 (oldL m L2).length c7) (.slice a8 (oldL m L2).length c8) (by rw [nats_length']; exact Nat.le_trans (oldL_len m L2) (by omega)) (by rw [nats_length']; exact row.reads H9) (by rw [nats_length']; exact hr8)) H9
            clear hr8
            go_wp2_with fail
            refine ci.mono ?_
            rintro e w9 ⟨rfl, H10⟩
            clear ci
            have H11 := H10.drop
            go_wp2_with fail
            refine (co.out _ H11).mono ?_
            rintro e w10 ⟨v10, rfl, H12⟩
            obtain ⟨a10, c10, rfl⟩ := row_shape H12
            have ci := retQ (ints_same (nats L2) (.slice a10 L2.length c10) (.slice a2 L2.length c2) (by rw [nats_length']; omega) (by rw [nats_length']; exact row.reads H12) (by rw [nats_length']; exact row.reads H12.drop.drop)) H12
            go_wp2_with fail
            refine ci.mono ?_
            rintro e w11 ⟨rfl, H13⟩
            clear ci
            have H14 := H13.drop
            go_wp2_with fail
            refine (cin.out _ H14).mono ?_
            rintro e w12 ⟨rfl, H15⟩
            obtain ⟨g, rfl, hcu⟩ := hcl2.out _ H15
            go_wp2
            go_roundw
            case rel => exact ⟨k + 1, L2, _, by omega, by go_num, rfl, H15⟩
            case measure => simp [intOf]; omega
        | false =>
          have cr := refAdd HH.swap (by omega) zs (.slice av zs.length cv) zs.length (by omega) (fun w' h => HRD.out.based h.drop)
          go_wp2_with fail
          refine cr.mono ?_
          rintro e w2 ⟨v2, rfl, H2⟩
          clear cr hc1 hc2
          obtain ⟨a2, c2, rfl⟩ := row_shape H2
          have hc2 := (hcw.out _ _ _ H2).2
          have cr := lruAdd H2.swap zs (.slice av zs.length cv) zs.length (by omega) (fun w' h => HRD.out.based h.drop)
          go_wp2_with fail
          refine cr.mono ?_
          rintro e w3 ⟨rfl, H4⟩
          clear cr hc2 hlf
          generalize (addL L zs).2 = qq at *
          generalize (addL L zs).1 = L2 at *
          obtain ⟨hnd2, _, hl2⟩ := lru_facts H4
          have co : Hid (∀ w', Holds E w' (lruH ob L2 :: row (.slice a2 L2.length c2) 3 1 L2.length (ints (nats L2)) :: [base W]) → Calls Try.prog 58 #[.pointer (some ⟨ob, 0, none⟩), .int .i64 1000] w' (RetEx E (fun v : Value => v) (fun v => row v 3 1 L2.length (ints (nats L2)) :: lruH ob L2 :: row (.slice a2 L2.length c2) 3 1 L2.length (ints (nats L2)) :: [base W]))) := Lib.hid fun w' h => by
            have := lruOldest_ok h 1000 (by decide)
            rw [takeM_all (.inr (by omega))] at this
            exact this
          have H5 := H4.swap
          have cat0 : ∀ w', Reads w' (.slice a2 L2.length c2) 1 L2.length (ints (nats L2)) → Calls Try.prog 61 #[.slice a2 L2.length c2, .int .i64 x] w' (Quiet w' (.int .i64 (atI (nats L2) x))) := fun w' hr => at3_any (nats L2) _ x (by rw [nats_length']; omega) (by rw [nats_length']; exact hr)
          have cat := cat0 _ (row.reads H5)
          have cnw : Hid (∀ w', Holds E w' (lruH ob L2 :: row (.slice a2 L2.length c2) 3 1 L2.length (ints (nats L2)) :: [base W]) → _) := Lib.hid fun w' h => lruNewer h x
          have cin : Hid (∀ w', Holds E w' (lruH ob L2 :: row (.slice a2 L2.length c2) 3 1 L2.length (ints (nats L2)) :: [base W]) → _) := Lib.hid fun w' h => lruIn h x
          have hcl : ∀ w', Holds E w' (lruH ob L2 :: row (.slice a2 L2.length c2) 3 1 L2.length (ints (nats L2)) :: [base W]) → ∀ i, i < L2.length → ∃ g, a2 = some ⟨g, 0, none⟩ ∧ w'.cell? ⟨g, i, none⟩ = some (.int .i64 ((L2.getD i 0 : Nat) : Int)) := fun w' h i hi => by
            obtain ⟨_, ⟨_, hh⟩ | ⟨g, cap, cur, hv, _⟩⟩ := row.open h.drop
            · omega
            · cases hv
              obtain ⟨b', o', h1, h2⟩ := (row.reads h.drop).at (by omega)
              cases h1
              have := h2 i _ (ints_get (nats_getI hi))
              rw [Nat.zero_add] at this
              exact ⟨_, rfl, this⟩
          clear cat0
          rcases lru_shape hnd2 x with ⟨e1, e2, e3, e4⟩ | ⟨i, e1, e5, e2, e3, e4⟩ | ⟨i, u, e1, e5, e6, e2, e3, e4⟩
          · rw [e1] at cat
            rw [e2, e3] at cnw
            rw [e4] at cin
            clear e1 e2 e3 e4 hcl hnd2
            go_wp2_with fail
            refine (retQ cat H5).mono ?_
            rintro e w4 ⟨rfl, H6⟩
            go_wp2_with fail
            refine (cnw.out _ H6.swap).mono ?_
            rintro e w5 ⟨rfl, H7⟩
            go_wp2_with fail
            refine (lruLen H7).mono ?_
            rintro e w6 ⟨rfl, H8⟩
            go_wp2_with fail
            refine (lruOldest_any H8 m).mono ?_
            rintro e w7 ⟨v7, rfl, H9⟩
            obtain ⟨a7, c7, rfl⟩ := row_shape H9
            go_wp2_with fail
            refine (refOldest H9.drop.drop m).mono ?_
            rintro e w8 ⟨v8, rfl, hr8, rfl⟩
            obtain ⟨a8, c8, rfl⟩ := hr8.shape
            have ci := retQ (ints_same (nats (oldL m L2)) (.slice a7 (oldL m L2).length c7) (.slice a8 (oldL m L2).length c8) (by rw [nats_length']; exact Nat.le_trans (oldL_len m L2) (by omega)) (by rw [nats_length']; exact row.reads H9) (by rw [nats_length']; exact hr8)) H9
            clear hr8
            go_wp2_with fail
            refine ci.mono ?_
            rintro e w9 ⟨rfl, H10⟩
            clear ci
            have H11 := H10.drop
            go_wp2_with fail
            refine (co.out _ H11).mono ?_
            rintro e w10 ⟨v10, rfl, H12⟩
            obtain ⟨a10, c10, rfl⟩ := row_shape H12
            have ci := retQ (ints_same (nats L2) (.slice a10 L2.length c10) (.slice a2 L2.length c2) (by rw [nats_length']; omega) (by rw [nats_length']; exact row.reads H12) (by rw [nats_length']; exact row.reads H12.drop.drop)) H12
            go_wp2_with fail
            refine ci.mono ?_
            rintro e w11 ⟨rfl, H13⟩
            clear ci
            have H14 := H13.drop
            go_wp2_with fail
            refine (cin.out _ H14).mono ?_
            rintro e w12 ⟨rfl, H15⟩
            go_wp2
            go_roundw
            case rel => exact ⟨k + 1, L2, _, by omega, by go_num, rfl, H15⟩
            case measure => simp [intOf]; omega
          · rw [e1] at cat
            rw [e2, e3] at cnw
            rw [e4] at cin
            have hq : ((i : Int) == (L2.length : Int) - 1) = true := by simp; omega
            clear e1 e2 e3 e4 e5 hcl hnd2
            go_wp2_with fail
            refine (retQ cat H5).mono ?_
            rintro e w4 ⟨rfl, H6⟩
            go_wp2_with fail
            refine (cnw.out _ H6.swap).mono ?_
            rintro e w5 ⟨rfl, H7⟩
            go_wp2_with fail
            refine (lruLen H7).mono ?_
            rintro e w6 ⟨rfl, H8⟩
            go_wp2_with fail
            refine (lruOldest_any H8 m).mono ?_
            rintro e w7 ⟨v7, rfl, H9⟩
            obtain ⟨a7, c7, rfl⟩ := row_shape H9
            go_wp2_with fail
            refine (refOldest H9.drop.drop m).mono ?_
            rintro e w8 ⟨v8, rfl, hr8, rfl⟩
            obtain ⟨a8, c8, rfl⟩ := hr8.shape
            have ci := retQ (ints_same (nats (oldL m L2)) (.slice a7 (oldL m L2).length c7) (.slice a8 (oldL m L2).length c8) (by rw [nats_length']; exact Nat.le_trans (oldL_len m L2) (by omega)) (by rw [nats_length']; exact row.reads H9) (by rw [nats_length']; exact hr8)) H9
            clear hr8
            go_wp2_with fail
            refine ci.mono ?_
            rintro e w9 ⟨rfl, H10⟩
            clear ci
            have H11 := H10.drop
            go_wp2_with fail
            refine (co.out _ H11).mono ?_
            rintro e w10 ⟨v10, rfl, H12⟩
            obtain ⟨a10, c10, rfl⟩ := row_shape H12
            have ci := retQ (ints_same (nats L2) (.slice a10 L2.length c10) (.slice a2 L2.length c2) (by rw [nats_length']; omega) (by rw [nats_length']; exact row.reads H12) (by rw [nats_length']; exact row.reads H12.drop.drop)) H12
            go_wp2_with fail
            refine ci.mono ?_
            rintro e w11 ⟨rfl, H13⟩
            clear ci
            have H14 := H13.drop
            go_wp2_with fail
            refine (cin.out _ H14).mono ?_
            rintro e w12 ⟨rfl, H15⟩
            go_wp2
            go_roundw
            case rel => exact ⟨k + 1, L2, _, by omega, by go_num, rfl, H15⟩
            case measure => simp [intOf]; omega
          · rw [e1] at cat
            rw [e2, e3] at cnw
            rw [e4] at cin
            have hq : ((i : Int) == (L2.length : Int) - 1) = false := by simp; omega
            have hq2 : (i : Int) + 1 < (L2.length : Int) := by omega
            have hcl2 := Lib.hid fun w' h => hcl w' h (i + 1) e5
            rw [e6] at hcl2
            clear e1 e2 e3 e4 e5 e6 hcl hnd2
            go_wp2_with fail
            refine (retQ cat H5).mono ?_
            rintro e w4 ⟨rfl, H6⟩
            go_wp2_with fail
            refine (cnw.out _ H6.swap).mono ?_
            rintro e w5 ⟨rfl, H7⟩
            go_wp2_with fail
            refine (lruLen H7).mono ?_
            rintro e w6 ⟨rfl, H8⟩
            go_wp2_with fail
            refine (lruOldest_any H8 m).mono ?_
            rintro e w7 ⟨v7, rfl, H9⟩
            obtain ⟨a7, c7, rfl⟩ := row_shape H9
            go_wp2_with fail
            refine (refOldest H9.drop.drop m).mono ?_
            rintro e w8 ⟨v8, rfl, hr8, rfl⟩
            obtain ⟨a8, c8, rfl⟩ := hr8.shape
            have ci := retQ (ints_same (nats (oldL m L2)) (.slice a7 (oldL m L2).length c7) (.slice a8 (oldL m L2).length c8) (by rw [nats_length']; exact Nat.le_trans (oldL_len m L2) (by omega)) (by rw [nats_length']; exact row.reads H9) (by rw [nats_length']; exact hr8)) H9
            clear hr8
            go_wp2_with fail
            refine ci.mono ?_
            rintro e w9 ⟨rfl, H10⟩
            clear ci
            have H11 := H10.drop
            go_wp2_with fail
            refine (co.out _ H11).mono ?_
            rintro e w10 ⟨v10, rfl, H12⟩
            obtain ⟨a10, c10, rfl⟩ := row_shape H12
            have ci := retQ (ints_same (nats L2) (.slice a10 L2.length c10) (.slice a2 L2.length c2) (by rw [nats_length']; omega) (by rw [nats_length']; exact row.reads H12) (by rw [nats_length']; exact row.reads H12.drop.drop)) H12
            go_wp2_with fail
            refine ci.mono ?_
            rintro e w11 ⟨rfl, H13⟩
            clear ci
            have H14 := H13.drop
            go_wp2_with fail
            refine (cin.out _ H14).mono ?_
            rintro e w12 ⟨rfl, H15⟩
            obtain ⟨g, rfl, hcu⟩ := hcl2.out _ H15
            go_wp2
            go_roundw
            case rel => exact ⟨k + 1, L2, _, by omega, by go_num, rfl, H15⟩
            case measure => simp [intOf]; omega
      · go_wp2_with fail
        refine (lives25 HH).mono ?_
        rintro e w9 ⟨rfl, H9⟩
        go_wp2
        go_ret
        exact ⟨rfl, hbel _ _ H9.drop.drop⟩

set_option maxRecDepth 100000 in
theorem lruPlays_arg (W : World) (v0 v1 v2 : Value) (a0 : Arg Try.prog W 88 v0) (a1 : Arg Try.prog W 3 v1) (a2 : Arg Try.prog W 3 v2) :
    Calls Try.prog 14 #[v0, v1, v2] W fun e w' => e = .returned (.bool true) ∧ Below W.heap.size W w' := by
  obtain ⟨n, xs, hr, hb, hf⟩ := a0.slice Try.underlying88
  have h5 : Try.prog.cellsOf 90 = 2 := by kernel_rfl
  have h6 : Try.prog.bytesOf 90 = 32 := by kernel_rfl
  rw [h5] at hr hf
  rw [h6] at hb
  obtain ⟨a, c, D, rfl, hD⟩ := deeds_of hr hf
  obtain ⟨m, rfl, _⟩ := a1.int Try.underlying3
  obtain ⟨x, rfl, _⟩ := a2.int Try.underlying3
  have hre : reachBytes = 140737488351232 := by decide
  exact lruPlays_walk W a n c D (by omega) hD m x
end Go.Proofs.Ytfjdgjdkpmljkaa
