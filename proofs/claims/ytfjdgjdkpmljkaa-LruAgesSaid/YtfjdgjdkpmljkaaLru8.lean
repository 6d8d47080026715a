/-
  LruAges: the walk.
-/
import Derived.Test.YtfjdgjdkpmljkaaLru7
import Derived.Deep.RegionHeld3
namespace Go.Proofs.Ytfjdgjdkpmljkaa
open Go.RowKit Go.Shelf

set_option maxRecDepth 100000 in
theorem deed_arg {W : World} {v : Value} (a : Arg Try.prog W 90 v) : ∃ (out : Bool) (v' : Value) (zs : List Int), v = .agg #[.bool out, v'] ∧ Reads W v' 1 zs.length (ints zs) := by
  obtain ⟨cs, rfl, _, _⟩ := a.struct Try.underlying90
  obtain ⟨out, v', zs, h1, h2⟩ := flat_deed (d := 3) a.1
  have h3 : cs.toList = [.bool out, v'] := h1
  exact ⟨out, v', zs, by rw [← Array.toArray_toList (xs := cs), h3], h2⟩


set_option maxRecDepth 100000 in
set_option maxHeartbeats 8000000 in
theorem lruAges_walk (W : World) (ad : Option Addr) (n c : Nat) (D : List Deed) (hn : n ≤ 4611686018427387904) (hD : Deeds W ad n D) (out : Bool) (vd : Value) (zs : List Int) (hz : Reads W vd 1 zs.length (ints zs)) :
    Calls Try.prog 13 #[.slice ad n c, .agg #[.bool out, vd]] W fun e w' => e = .returned (.bool true) ∧ Below W.heap.size W w' := by
  have H0 := Holds.start W
  generalize hE : (⟨W.os, W.output, W.tape⟩ : Env) = E at *
  have hbel : ∀ w' A, Holds E w' (base W :: A) → Below W.heap.size W w' := fun w' A h => by subst hE; exact h.below rfl rfl rfl
  clear hE
  have hdeeds : ∀ w' A, Holds E w' (base W :: A) → Deeds w' ad n D := fun w' A h => ⟨hD.1, fun i hi => by
    obtain ⟨b, o, v, h1, h2, h3, h4, h5⟩ := hD.2 i hi
    exact ⟨b, o, v, h1, Nat.lt_of_lt_of_le h2 h.baseSize, by rw [← h3]; exact World.cell?_of_block (w := W) (h.baseE h2), by rw [← h4]; exact World.cell?_of_block (w := W) (h.baseE h2), h5.based h⟩⟩
  have HDD := Lib.hid hdeeds
  have hDl := hD.1
  have HD := Lib.hid hD
  have HZ := Lib.hid hz
  obtain ⟨av, cv, rfl⟩ := hz.shape
  clear hdeeds hD hz
  have H1 := H0.alloc (.cells #[.bool out, .slice av zs.length cv] 90)
  have hc1 := H1.cells
  have cg1 := retQ (great_any ad n c D hn (HDD.out _ _ H1.drop)) H1
  go_enter Try.func13, Try.ntmps13
  go_wp2_with fail
  refine cg1.mono ?_
  clear cg1
  obtain ⟨bd, hbd⟩ : ∃ bd, W.heap.size = bd := ⟨_, rfl⟩
  rw [hbd] at H1 hc1
  have HBD := Lib.hid hbd
  rw [hbd]
  rintro e w1 ⟨rfl, H2⟩
  clear hc1 H1 H0 hbd
  have hc2 := H2.cells
  cases hg : greatB D with
  | true =>
    clear hg
    go_wp2_with fail
    refine (lives25 H2).mono ?_
    rintro e w8 ⟨rfl, H8⟩
    go_wp2
    go_ret
    exact ⟨rfl, hbel _ _ H8.drop⟩
  | false =>
    obtain ⟨hn40, hn60⟩ := greatB_false hg
    rw [hDl] at hn40 hn60
    clear hg hDl
    have HN := Lib.hid hn60
    clear hn60
    have H3 := H2.alloc (.cells #[.bool out, .slice av zs.length cv] 90)
    have cg2 := retQ (great_any (some ⟨w1.heap.size, 0, none⟩) 1 1 [(out, zs)] (by decide) ⟨rfl, fun i hi => by
      obtain rfl : i = 0 := by omega
      exact ⟨w1.heap.size, 0, _, rfl, H3.lt, H3.cells 0, H3.cells 1, HZ.out.based H3.drop.drop⟩⟩) H3
    go_wp2_with fail
    refine cg2.mono ?_
    rintro e w2 ⟨rfl, H4a⟩
    have H4 := H4a.drop
    clear cg2 H3 H2 hc2 H4a
    cases hg : greatB [(out, zs)] with
    | true =>
      clear hg
      go_wp2_with fail
      refine (lives25 H4).mono ?_
      rintro e w8 ⟨rfl, H8⟩
      go_wp2
      go_ret
      exact ⟨rfl, hbel _ _ H8.drop⟩
    | false =>
      have hz60 : zs.length ≤ 60 := (greatB_false hg).2 0 (by simp)
      clear hg
      go_wp2_with fail
      refine (lruNew H4).mono ?_
      rintro e w3 ⟨ob, rfl, H5⟩
      clear H4
      go_wp2
      go_loopw [6] (fun i wr => ∃ (k : Nat) (L : List Nat), k ≤ n ∧ i = .int .i64 (k : Nat) ∧ Hid (∀ x ∈ L, 1 ≤ x ∧ x ≤ 512) ∧ Holds E wr [lruH ob L, pts bd (.cells #[.bool out, .slice av zs.length cv] 90 (0, 0)), base W]) (fun i _ => n - (intOf i).toNat)
      case atStart => exact ⟨0, [], by omega, rfl, Lib.hid (by simp), H5⟩
      case round =>
        clear H5
        obtain ⟨k, L, hk, rfl, hLb, HH⟩ := hrel
        by_cases hlt : k < n
        · obtain ⟨bb, oo, vv, rfl, hbb, _, hc2, hrd⟩ := HD.out.2 k hlt
          have h60 := HN.out k hlt
          have hcw : wr.cell? ⟨bb, oo + k * 2 + 1, none⟩ = some vv := by rw [← hc2]; exact World.cell?_of_block (w := W) (HH.drop.drop.baseE hbb)
          clear hc2
          generalize (D.getD k (false, [])).2 = ys at *
          obtain ⟨ay, cy, rfl⟩ := hrd.shape
          have ca := lruAdd HH ys (.slice ay ys.length cy) ys.length (by omega) (fun w' h => hrd.based h.drop)
          have hLb2 := Lib.hid (addL_bd ys L hLb.out)
          clear hrd hLb
          generalize (addL L ys).2 = qq at *
          generalize (addL L ys).1 = L2 at *
          go_wp2_with fail
          refine ca.mono ?_
          rintro e w4 ⟨rfl, H6⟩
          clear ca
          go_wp2
          go_roundw
          case rel => exact ⟨k + 1, L2, by omega, by go_num, hLb2, H6⟩
          case measure => simp [intOf]; omega
        · obtain ⟨hnd, _, hl5⟩ := lru_facts HH
          have c1 := lruOldest_ok HH 600 (by decide)
          rw [takeM_all (.inr (by omega))] at c1
          go_wp2_with fail
          refine c1.mono ?_
          rintro e w4 ⟨vw, rfl, H6⟩
          obtain ⟨aw, cw, rfl⟩ := row_shape H6
          clear c1
          have hcd := (H6.take (Take.there _ (Take.there _ (Take.here _ _)))).cells
          cases out with
          | true =>
            have hag := Lib.hid (Aged.rem (zs := zs) hnd)
            have ca := lruRemove H6.swap zs (.slice av zs.length cv) zs.length (by omega) (fun w' h => HZ.out.based h.drop.drop)
            generalize (remL L zs).2 = qq at *
            generalize (remL L zs).1 = M at *
            go_wp2_with fail
            refine ca.mono ?_
            rintro e w5 ⟨rfl, H7⟩
            clear ca hcd H6 HH
            obtain ⟨_, _, hm5⟩ := lru_facts H7
            have c1 := lruOldest_ok H7 600 (by decide)
            rw [takeM_all (.inr (by omega))] at c1
            go_wp2_with fail
            refine c1.mono ?_
            rintro e w6 ⟨vn, rfl, H8⟩
            obtain ⟨an, cn, rfl⟩ := row_shape H8
            clear c1 H7
            go_wp2_with fail
            refine (lruLen H8.swap).mono ?_
            rintro e w7 ⟨rfl, H9⟩
            clear H8
            obtain ⟨A, hA⟩ : ∃ A, A = [lruH ob M, row (.slice an M.length cn) 3 1 M.length (ints (nats M)), row (.slice aw L.length cw) 3 1 L.length (ints (nats L)), pts bd (.cells #[.bool true, .slice av zs.length cv] 90 (0, 0)), base W] := ⟨_, rfl⟩
            have HA1 : Hid (∀ w' (x : Int), Holds E w' A → Calls Try.prog 61 #[.slice av zs.length cv, .int .i64 x] w' (Ret E (.int .i64 (atI zs x)) A)) := Lib.hid fun w' x h => retQ (at3_any zs _ x (by omega) (by subst hA; exact HZ.out.based h.drop.drop.drop.drop)) h
            have HA2 : Hid (∀ w' (x : Int), Holds E w' A → Calls Try.prog 61 #[.slice an M.length cn, .int .i64 x] w' (Ret E (.int .i64 (atI (nats M) x)) A)) := Lib.hid fun w' x h => retQ (at3_any (nats M) _ x (by rw [nats_length']; omega) (by subst hA; rw [nats_length']; exact row.reads h.drop)) h
            have HC0 : Hid (∀ w', Holds E w' A → w'.cell? ⟨bd, 0, none⟩ = some (.bool true) ∧ w'.cell? ⟨bd, 1, none⟩ = some (.slice av zs.length cv)) := Lib.hid fun w' h => by
              subst hA
              have := (h.take (Take.there _ (Take.there _ (Take.there _ (Take.here _ _))))).cells
              exact ⟨this 0, this 1⟩
            have HC1 : Hid (∀ i, i < L.length → ∃ g, aw = some ⟨g, 0, none⟩ ∧ ∀ w', Holds E w' A → w'.cell? ⟨g, i, none⟩ = some (.int .i64 ((L.getD i 0 : Nat) : Int))) := Lib.hid fun i hi => by
              subst hA
              obtain ⟨_, ⟨_, hh⟩ | ⟨g, cap, cur, hv, _⟩⟩ := row.open H9.drop.drop
              · omega
              · cases hv
                refine ⟨g, rfl, fun w' h => ?_⟩
                obtain ⟨b', o', h1, h2⟩ := (row.reads h.drop.drop).at (by omega)
                cases h1
                have := h2 i _ (ints_get (nats_getI hi))
                rwa [Nat.zero_add] at this
            have HC2 : Hid (∀ j, j < zs.length → ∃ b o, av = some ⟨b, o, none⟩ ∧ ∀ w', Holds E w' A → w'.cell? ⟨b, o + j, none⟩ = some (.int .i64 (zs.getD j 0))) := Lib.hid fun j hj => by
              obtain ⟨b, o, h1, h2⟩ := HZ.out.at (by omega)
              refine ⟨b, o, h1, fun w' h => ?_⟩
              subst hA
              have h3 := h2 j _ (ints_get (show zs[j]? = some (zs.getD j 0) by simp [List.getD, List.getElem?_eq_getElem hj]))
              rw [← h3]
              exact World.cell?_of_block (w := W) (h.drop.drop.drop.drop.baseE (World.block_lt_of_cell? _ _ h3))
            have HE : Hid (∀ w', Holds E w' A → Holds E w' [base W]) := Lib.hid fun w' h => by subst hA; exact h.drop.drop.drop.drop
            rw [← hA] at H9
            clear hA hLb hm5
            go_wp2
            go_loopw [9, 10] (fun q i wr => ∃ k : Nat, k ≤ L.length ∧ i = .int .i64 (k : Nat) ∧ q = .int .i64 (((outs zs (L.take k)).length : Int) - 1) ∧ Holds E wr A) (fun _ i _ => L.length - (intOf i).toNat)
            case atStart => exact ⟨0, by omega, rfl, by simp [outs], H9⟩
            case round =>
              clear H9
              obtain ⟨k, hk, rfl, rfl, HH⟩ := hrel
              by_cases hlt : k < L.length
              · obtain ⟨g, rfl, hcl⟩ := HC1.out k hlt
                have hot := outs_take (zs := zs) hlt
                have hstay := hag.out.stays k hlt
                have htold := hag.out.told (L.getD k 0) (by simp [List.getD, List.getElem?_eq_getElem hlt])
                have hol : (outs zs (L.take k)).length ≤ k := by
                  have := List.length_filter_le (fun x => !InZ zs x) (L.take k)
                  rw [List.length_take] at this
                  unfold outs
                  omega
                have HA1' := Lib.hid fun w' (h : Holds E w' A) => HA1.out w' ((L.getD k 0 : Nat) : Int) h
                have HA2' := Lib.hid fun w' (h : Holds E w' A) => HA2.out w' ((L.getD k 0 : Nat) : Int) h
                have HS : Hid (∀ w', Holds E w' A → w'.cell? ⟨bd, 1, none⟩ = some (.slice av zs.length cv) ∧ w'.cell? ⟨g, k, none⟩ = some (.int .i64 ((L.getD k 0 : Nat) : Int))) := Lib.hid fun w' h => ⟨(HC0.out w' h).2, hcl w' h⟩
                generalize (outs zs (L.take k)) = o1 at *
                generalize hx : L.getD k 0 = x at *
                obtain ⟨hq1, hq2⟩ := HS.out _ HH
                have HD' := HH.drawn (wr.drawn + 1)
                clear hcl hx
                by_cases hin : (x : Int) ∈ zs
                · have h5 := htold hin
                  rw [if_pos hin, List.append_nil] at hot
                  obtain ⟨j1, hj1⟩ : ∃ j1 : Nat, atI zs (x : Int) = j1 := ⟨_, if_pos hin⟩
                  rw [hj1] at HA1'
                  have h6 := atI_ge (xs := nats M) (z := (x : Int))
                  generalize atI (nats M) (x : Int) = a2 at *
                  have h5' : a2 = -1 := by simpa using h5
                  have HOT := Lib.hid hot
                  clear hj1 hin htold hstay hot h5
                  go_wp2_with fail
                  go_region_held3 (fun w' => w'.cell? ⟨bd, 1, none⟩ = some (.slice av zs.length cv) ∧ w'.cell? ⟨g, k, none⟩ = some (.int .i64 (x : Int)))
                    (exact HS.out _ (by assumption))
                    (first | (go_at_call 61; refine (HA1'.out _ (by assumption)).mono ?_; rintro e w4 ⟨rfl, HN⟩))
                  all_goals
                    obtain ⟨hr1, hr2⟩ := HS.out _ HN
                    go_wp2_with fail
                    refine (HA2'.out _ HN).mono ?_
                    rintro e w8 ⟨rfl, H10⟩
                    obtain ⟨hr3, hr4⟩ := HC0.out _ H10
                    go_wp2
                    go_roundw
                    case rel => exact ⟨k + 1, by omega, by go_num, by rw [HOT.out], H10⟩
                    case measure => simp [intOf]; omega
                · have h5 := hstay hin
                  rw [if_neg hin] at hot
                  have hj1 : atI zs (x : Int) = -1 := if_neg hin
                  rw [hj1] at HA1'
                  rw [h5] at HA2'
                  have HOT := Lib.hid hot
                  clear hj1 hin htold hstay hot h5
                  obtain ⟨q1, hq1'⟩ : ∃ q1, o1.length = q1 := ⟨_, rfl⟩
                  rw [hq1'] at HA2' hol ⊢
                  have HQ := Lib.hid hq1'
                  clear hq1'
                  go_wp2_with fail
                  go_region_held3 (fun w' => w'.cell? ⟨bd, 1, none⟩ = some (.slice av zs.length cv) ∧ w'.cell? ⟨g, k, none⟩ = some (.int .i64 (x : Int)))
                    (exact HS.out _ (by assumption))
                    (first | (go_at_call 61; refine (HA1'.out _ (by assumption)).mono ?_; rintro e w4 ⟨rfl, HN⟩))
                  all_goals
                    obtain ⟨hr1, hr2⟩ := HS.out _ HN
                    go_wp2_with fail
                    refine (HA2'.out _ HN).mono ?_
                    rintro e w8 ⟨rfl, H10⟩
                    go_wp2
                    go_roundw
                    case rel => exact ⟨k + 1, by omega, by go_num, by rw [HOT.out, List.length_append, HQ.out]; simp, H10⟩
                    case measure => simp [intOf]; omega
              · obtain rfl : k = L.length := by omega
                rw [show L.take L.length = L from List.take_length] at *
                have hlate := hag.out.late
                have hol : (outs zs L).length ≤ 513 := by
                  have := List.length_filter_le (fun x => !InZ zs x) L
                  unfold outs
                  omega
                clear HC1 hag
                generalize (outs zs L).length = q1 at *
                have HL := Lib.hid hlate
                clear hlate
                obtain ⟨hr1, hr2⟩ := HC0.out _ HH
                by_cases hz0 : 0 < zs.length
                · go_wp2_with fail
                  refine wp_loop_rounds 1 ?_
                  rw [rounds_succ]
                  go_wp2_with fail
                  refine (lives25 (HE.out _ HH)).mono ?_
                  rintro e w8 ⟨rfl, H8⟩
                  go_wp2
                  go_ret
                  exact ⟨rfl, hbel _ _ H8⟩
                · have hz0' : zs.length = 0 := by omega
                  go_wp2_with fail
                  refine wp_loop_rounds 1 ?_
                  rw [rounds_succ]
                  go_wp2_with fail
                  refine (lives25 (HE.out _ HH)).mono ?_
                  rintro e w8 ⟨rfl, H8⟩
                  go_wp2
                  go_ret
                  exact ⟨rfl, hbel _ _ H8⟩
          | false =>
            have hag := Lib.hid (Aged.add (zs := zs) hnd hLb.out)
            have ca := lruAdd H6.swap zs (.slice av zs.length cv) zs.length (by omega) (fun w' h => HZ.out.based h.drop.drop)
            generalize (addL L zs).2 = qq at *
            generalize (addL L zs).1 = M at *
            go_wp2_with fail
            refine ca.mono ?_
            rintro e w5 ⟨rfl, H7⟩
            clear ca hcd H6 HH
            obtain ⟨_, _, hm5⟩ := lru_facts H7
            have c1 := lruOldest_ok H7 600 (by decide)
            rw [takeM_all (.inr (by omega))] at c1
            go_wp2_with fail
            refine c1.mono ?_
            rintro e w6 ⟨vn, rfl, H8⟩
            obtain ⟨an, cn, rfl⟩ := row_shape H8
            clear c1 H7
            go_wp2_with fail
            refine (lruLen H8.swap).mono ?_
            rintro e w7 ⟨rfl, H9⟩
            clear H8
            obtain ⟨A, hA⟩ : ∃ A, A = [lruH ob M, row (.slice an M.length cn) 3 1 M.length (ints (nats M)), row (.slice aw L.length cw) 3 1 L.length (ints (nats L)), pts bd (.cells #[.bool false, .slice av zs.length cv] 90 (0, 0)), base W] := ⟨_, rfl⟩
            have HA1 : Hid (∀ w' (x : Int), Holds E w' A → Calls Try.prog 61 #[.slice av zs.length cv, .int .i64 x] w' (Ret E (.int .i64 (atI zs x)) A)) := Lib.hid fun w' x h => retQ (at3_any zs _ x (by omega) (by subst hA; exact HZ.out.based h.drop.drop.drop.drop)) h
            have HA2 : Hid (∀ w' (x : Int), Holds E w' A → Calls Try.prog 61 #[.slice an M.length cn, .int .i64 x] w' (Ret E (.int .i64 (atI (nats M) x)) A)) := Lib.hid fun w' x h => retQ (at3_any (nats M) _ x (by rw [nats_length']; omega) (by subst hA; rw [nats_length']; exact row.reads h.drop)) h
            have HC0 : Hid (∀ w', Holds E w' A → w'.cell? ⟨bd, 0, none⟩ = some (.bool false) ∧ w'.cell? ⟨bd, 1, none⟩ = some (.slice av zs.length cv)) := Lib.hid fun w' h => by
              subst hA
              have := (h.take (Take.there _ (Take.there _ (Take.there _ (Take.here _ _))))).cells
              exact ⟨this 0, this 1⟩
            have HC1 : Hid (∀ i, i < L.length → ∃ g, aw = some ⟨g, 0, none⟩ ∧ ∀ w', Holds E w' A → w'.cell? ⟨g, i, none⟩ = some (.int .i64 ((L.getD i 0 : Nat) : Int))) := Lib.hid fun i hi => by
              subst hA
              obtain ⟨_, ⟨_, hh⟩ | ⟨g, cap, cur, hv, _⟩⟩ := row.open H9.drop.drop
              · omega
              · cases hv
                refine ⟨g, rfl, fun w' h => ?_⟩
                obtain ⟨b', o', h1, h2⟩ := (row.reads h.drop.drop).at (by omega)
                cases h1
                have := h2 i _ (ints_get (nats_getI hi))
                rwa [Nat.zero_add] at this
            have HC2 : Hid (∀ j, j < zs.length → ∃ b o, av = some ⟨b, o, none⟩ ∧ ∀ w', Holds E w' A → w'.cell? ⟨b, o + j, none⟩ = some (.int .i64 (zs.getD j 0))) := Lib.hid fun j hj => by
              obtain ⟨b, o, h1, h2⟩ := HZ.out.at (by omega)
              refine ⟨b, o, h1, fun w' h => ?_⟩
              subst hA
              have h3 := h2 j _ (ints_get (show zs[j]? = some (zs.getD j 0) by simp [List.getD, List.getElem?_eq_getElem hj]))
              rw [← h3]
              exact World.cell?_of_block (w := W) (h.drop.drop.drop.drop.baseE (World.block_lt_of_cell? _ _ h3))
            have HE : Hid (∀ w', Holds E w' A → Holds E w' [base W]) := Lib.hid fun w' h => by subst hA; exact h.drop.drop.drop.drop
            rw [← hA] at H9
            clear hA hLb hm5
            go_wp2
            go_loopw [9, 10] (fun q i wr => ∃ k : Nat, k ≤ L.length ∧ i = .int .i64 (k : Nat) ∧ q = .int .i64 (((outs zs (L.take k)).length : Int) - 1) ∧ Holds E wr A) (fun _ i _ => L.length - (intOf i).toNat)
            case atStart => exact ⟨0, by omega, rfl, by simp [outs], H9⟩
            case round =>
              clear H9
              obtain ⟨k, hk, rfl, rfl, HH⟩ := hrel
              by_cases hlt : k < L.length
              · obtain ⟨g, rfl, hcl⟩ := HC1.out k hlt
                have hot := outs_take (zs := zs) hlt
                have hstay := hag.out.stays k hlt
                have htold := hag.out.told (L.getD k 0) (by simp [List.getD, List.getElem?_eq_getElem hlt])
                have hol : (outs zs (L.take k)).length ≤ k := by
                  have := List.length_filter_le (fun x => !InZ zs x) (L.take k)
                  rw [List.length_take] at this
                  unfold outs
                  omega
                have HA1' := Lib.hid fun w' (h : Holds E w' A) => HA1.out w' ((L.getD k 0 : Nat) : Int) h
                have HA2' := Lib.hid fun w' (h : Holds E w' A) => HA2.out w' ((L.getD k 0 : Nat) : Int) h
                have HS : Hid (∀ w', Holds E w' A → w'.cell? ⟨bd, 1, none⟩ = some (.slice av zs.length cv) ∧ w'.cell? ⟨g, k, none⟩ = some (.int .i64 ((L.getD k 0 : Nat) : Int))) := Lib.hid fun w' h => ⟨(HC0.out w' h).2, hcl w' h⟩
                generalize (outs zs (L.take k)) = o1 at *
                generalize hx : L.getD k 0 = x at *
                obtain ⟨hq1, hq2⟩ := HS.out _ HH
                have HD' := HH.drawn (wr.drawn + 1)
                clear hcl hx
                by_cases hin : (x : Int) ∈ zs
                · have h5 := htold hin
                  rw [if_pos hin, List.append_nil] at hot
                  obtain ⟨j1, hj1⟩ : ∃ j1 : Nat, atI zs (x : Int) = j1 := ⟨_, if_pos hin⟩
                  rw [hj1] at HA1'
                  have h6 := atI_ge (xs := nats M) (z := (x : Int))
                  generalize atI (nats M) (x : Int) = a2 at *
                  have h5' : 0 ≤ a2 := by simpa using h5
                  have HOT := Lib.hid hot
                  clear hj1 hin htold hstay hot h5
                  go_wp2_with fail
                  go_region_held3 (fun w' => w'.cell? ⟨bd, 1, none⟩ = some (.slice av zs.length cv) ∧ w'.cell? ⟨g, k, none⟩ = some (.int .i64 (x : Int)))
                    (exact HS.out _ (by assumption))
                    (first | (go_at_call 61; refine (HA1'.out _ (by assumption)).mono ?_; rintro e w4 ⟨rfl, HN⟩))
                  all_goals
                    obtain ⟨hr1, hr2⟩ := HS.out _ HN
                    go_wp2_with fail
                    refine (HA2'.out _ HN).mono ?_
                    rintro e w8 ⟨rfl, H10⟩
                    obtain ⟨hr3, hr4⟩ := HC0.out _ H10
                    go_wp2
                    go_roundw
                    case rel => exact ⟨k + 1, by omega, by go_num, by rw [HOT.out], H10⟩
                    case measure => simp [intOf]; omega
                · have h5 := hstay hin
                  rw [if_neg hin] at hot
                  have hj1 : atI zs (x : Int) = -1 := if_neg hin
                  rw [hj1] at HA1'
                  rw [h5] at HA2'
                  have HOT := Lib.hid hot
                  clear hj1 hin htold hstay hot h5
                  obtain ⟨q1, hq1'⟩ : ∃ q1, o1.length = q1 := ⟨_, rfl⟩
                  rw [hq1'] at HA2' hol ⊢
                  have HQ := Lib.hid hq1'
                  clear hq1'
                  go_wp2_with fail
                  go_region_held3 (fun w' => w'.cell? ⟨bd, 1, none⟩ = some (.slice av zs.length cv) ∧ w'.cell? ⟨g, k, none⟩ = some (.int .i64 (x : Int)))
                    (exact HS.out _ (by assumption))
                    (first | (go_at_call 61; refine (HA1'.out _ (by assumption)).mono ?_; rintro e w4 ⟨rfl, HN⟩))
                  all_goals
                    obtain ⟨hr1, hr2⟩ := HS.out _ HN
                    go_wp2_with fail
                    refine (HA2'.out _ HN).mono ?_
                    rintro e w8 ⟨rfl, H10⟩
                    go_wp2
                    go_roundw
                    case rel => exact ⟨k + 1, by omega, by go_num, by rw [HOT.out, List.length_append, HQ.out]; simp, H10⟩
                    case measure => simp [intOf]; omega
              · obtain rfl : k = L.length := by omega
                rw [show L.take L.length = L from List.take_length] at *
                have hlate := hag.out.late
                have hol : (outs zs L).length ≤ 513 := by
                  have := List.length_filter_le (fun x => !InZ zs x) L
                  unfold outs
                  omega
                clear HC1 hag
                generalize (outs zs L).length = q1 at *
                have HL := Lib.hid hlate
                clear hlate
                go_wp2_with fail
                go_loopw [13] (fun i wr => ∃ j : Nat, j ≤ zs.length ∧ i = .int .i64 (j : Nat) ∧ Holds E wr A) (fun i _ => zs.length - (intOf i).toNat)
                case atStart => exact ⟨0, by omega, rfl, HH⟩
                case round =>
                  clear HH
                  obtain ⟨j, hj, rfl, HH⟩ := hrel
                  obtain ⟨hr1, hr2⟩ := HC0.out _ HH
                  by_cases hlt : j < zs.length
                  · obtain ⟨b3, o3, rfl, hc3⟩ := HC2.out j hlt
                    have hcz := hc3 _ HH
                    have hl3 := HL.out (zs.getD j 0) (by simp [List.getD, List.getElem?_eq_getElem hlt])
                    have h6 := atI_ge (xs := nats M) (z := zs.getD j 0)
                    have HA2' := Lib.hid fun w' (h : Holds E w' A) => HA2.out w' (zs.getD j 0) h
                    generalize atI (nats M) (zs.getD j 0) = a3 at *
                    generalize zs.getD j 0 = y at *
                    clear hc3
                    rcases (by omega : a3 < 0 ∨ (0 ≤ a3 ∧ (q1 : Int) ≤ a3)) with h7 | ⟨h7, h8⟩
                    all_goals
                      clear hl3
                      go_wp2_with fail
                      refine (HA2'.out _ HH).mono ?_
                      rintro e w8 ⟨rfl, H10⟩
                      go_wp2
                      go_roundw
                      case rel => exact ⟨j + 1, by omega, by go_num, H10⟩
                      case measure => simp [intOf]; omega
                  · obtain rfl : j = zs.length := by omega
                    go_wp2_with fail
                    refine (lives25 (HE.out _ HH)).mono ?_
                    rintro e w8 ⟨rfl, H8⟩
                    go_wp2
                    go_ret
                    exact ⟨rfl, hbel _ _ H8⟩

set_option maxRecDepth 100000 in
theorem lruAges_arg (W : World) (v0 v1 : Value) (a0 : Arg Try.prog W 88 v0) (a1 : Arg Try.prog W 90 v1) :
    Calls Try.prog 13 #[v0, v1] W fun e w' => e = .returned (.bool true) ∧ Below W.heap.size W w' := by
  obtain ⟨n, xs, hr, hb, hf⟩ := a0.slice Try.underlying88
  have h5 : Try.prog.cellsOf 90 = 2 := by kernel_rfl
  have h6 : Try.prog.bytesOf 90 = 32 := by kernel_rfl
  rw [h5] at hr hf
  rw [h6] at hb
  obtain ⟨a, c, D, rfl, hD⟩ := deeds_of hr hf
  obtain ⟨out, v', zs, rfl, hz⟩ := deed_arg a1
  have hre : reachBytes = 140737488351232 := by decide
  exact lruAges_walk W a n c D (by omega) hD out v' zs hz
end Go.Proofs.Ytfjdgjdkpmljkaa
