/-
  HandlePlays: the walk.
-/
import Derived.Test.YtfjdgjdkpmljkaaHanS2
import Derived.Deep.RegionHeld3
namespace Go.Proofs.Ytfjdgjdkpmljkaa
open Go.RowKit

section
variable {e : Env} {w : World} {R : List HP}
set_option maxHeartbeats 400000 in
theorem hset_nil (H : Holds e w R) (x : Int) (p : PlaceS) : Calls Try.prog 22 #[.pointer none, .int .i64 x, p.val] w (Ret e (.bool false) R) := by
  unfold PlaceS.val
  go_enter Try.func22, Try.ntmps22
  go_wp2_with fail
  refine (retQ (in_nil _) (H.alloc _)).mono ?_
  rintro e w1 ⟨rfl, H1⟩
  go_wp2
  go_ret
  exact ⟨rfl, H1.drop⟩
end

theorem ints_rows {e : Env} {w : World} {R : List HP} {v v' : Value} {xs : List Int} (hb : xs.length ≤ 512) (H : Holds e w (row v 3 1 xs.length (ints xs) :: row v' 3 1 xs.length (ints xs) :: R)) :
    Calls Try.prog 45 #[v, v'] w (Ret e (.bool true) (row v 3 1 xs.length (ints xs) :: row v' 3 1 xs.length (ints xs) :: R)) ∧
    Calls Try.prog 45 #[v', v] w (Ret e (.bool true) (row v 3 1 xs.length (ints xs) :: row v' 3 1 xs.length (ints xs) :: R)) :=
  ⟨retQ (ints_same xs v v' (by omega) (row.reads H) (row.reads H.drop)) H, retQ (ints_same xs v' v (by omega) (row.reads H.drop) (row.reads H)) H⟩

theorem step_any {e : Env} {w : World} {R : List HP} {b : Nat} {t : TabS} {x : List HE} {v : Value} (A : Agree t x) (hl : x.length ≤ 60) (K h : Int) (P : PlaceS) (H : Holds e w (row v 113 4 x.length (hCells x) :: pts b t.obj :: R)) :
    Calls Try.prog 43 #[.pointer (some ⟨b, 0, none⟩), v, .agg #[.int .i64 K, .int .i64 h, .int .i64 P.page, .int .i64 P.obj, .int .i64 P.len]] w (StepPost e b x.length R) := by
  by_cases h0 : K = 0
  · exact step_make A hl K h P (.inl (by simp [h0])) H
  by_cases h1 : K = 1
  · exact step_make A hl K h P (.inr ⟨by simp [h0], by simp [h1]⟩) H
  by_cases h2 : K = 2
  · exact step_drop A hl K h P (by simp [h2]) (by simp [h0]) (by simp [h1]) H
  by_cases h3 : K = 3
  · exact step_set A hl K h P (by simp [h3]) (by simp [h2]) (by simp [h0]) (by simp [h1]) H
  · exact step_get A hl K h P (by simp [h3]) (by simp [h2]) (by simp [h0]) (by simp [h1]) H

set_option maxRecDepth 100000 in
set_option maxHeartbeats 4000000 in
theorem handlePlays_walk (W : World) (v : Value) (n : Nat) (zs : List Int) (hl : zs.length = n * 5) (hr : Reads W v 5 n (ints zs)) (pg : Int) :
    Calls Try.prog 9 #[v, .int .i64 pg] W fun e w' => e = .returned (.bool true) ∧ Below W.heap.size W w' := by
  have H0 := Holds.start W
  generalize hE : (⟨W.os, W.output, W.tape⟩ : Env) = E at *
  have hbel : ∀ w' A, Holds E w' (base W :: A) → Below W.heap.size W w' := fun w' A h => by subst hE; exact h.below rfl rfl rfl
  clear hE
  obtain ⟨ad, c, rfl⟩ := hr.shape
  have c1 := hmake_nil H0 ⟨0, 0, 1⟩
  rw [if_pos (show PlaceS.ok ⟨0, 0, 1⟩ by decide)] at c1
  unfold PlaceS.val at c1
  have HR := Lib.hid hr
  have HL := Lib.hid hl
  clear hr hl
  go_enter Try.func9, Try.ntmps9
  go_wp2_with fail
  refine c1.mono ?_
  rintro e w1 ⟨rfl, H1⟩
  clear c1 H0
  have c2 := get_nil H1 1
  unfold PlaceS.zero PlaceS.val at c2
  go_wp2_with fail
  refine c2.mono ?_
  rintro e w2 ⟨rfl, H2⟩
  clear c2 H1
  have H2a := H2.alloc (.cells #[.int .i64 0, .int .i64 0, .int .i64 0] 24)
  have c3 := hdrop_nil H2a 1
  unfold PlaceS.zero PlaceS.val at c3
  go_wp2_with fail
  refine c3.mono ?_
  rintro e w3 ⟨rfl, H3⟩
  clear c3
  generalize hb1 : w2.heap.size = b1 at *
  clear H2a H2 hb1
  have k1 := H3.cells
  have l1 := H3.lt
  have H4 := H3.alloc (.cells #[.int .i64 0, .int .i64 0, .int .i64 0] 24)
  have c4 := hset_nil H4 1 ⟨0, 0, 1⟩
  unfold PlaceS.val at c4
  go_wp2_with fail
  refine c4.mono ?_
  rintro e w5 ⟨rfl, H5⟩
  clear c4
  generalize hb2 : w3.heap.size = b2 at *
  clear H4 H3 hb2
  go_wp2_with fail
  refine (retQ (hlen_nil) H5).mono ?_
  rintro e w6 ⟨rfl, H6⟩
  clear H5
  go_wp2_with fail
  refine (retQ (hof_nil _) H6).mono ?_
  rintro e w7 ⟨rfl, H7⟩
  clear H6
  have H8 := H7.drop.drop
  by_cases hbig : 60 < n
  · go_wp2_with fail
    refine (lives19 H8).mono ?_
    rintro e w1 ⟨rfl, H2⟩
    go_wp2
    go_ret
    exact ⟨rfl, hbel _ _ H2⟩
  · have hcell := flat_at HR.out HL.out
    have HC := Lib.hid hcell
    clear hcell HR HL
    go_wp2_with fail
    refine (tabNew_any H8).mono ?_
    rintro e w1 ⟨b, rfl, H9⟩
    clear H7 H8
    go_wp2
    go_loopw [13, 14, 15, 16] (fun v i _ _ wr => ∃ k t x, k ≤ n ∧ i = .int .i64 (k : Nat) ∧ Agree t x ∧ x.length ≤ k ∧ Holds E wr [row v 113 4 x.length (hCells x), pts b t.obj, base W]) (fun _ i _ _ _ => n - (intOf i).toNat)
    case atStart => exact ⟨0, TabS.zero, [], by omega, rfl, Agree.start, by simp, row.nil _ _ H9⟩
    case round =>
      obtain ⟨k, t, x, hk, rfl, HA, hxk, HH⟩ := hrel
      have HAG := Lib.hid HA
      clear HA
      by_cases hlt : k < n
      · obtain ⟨bb, oo, rfl, hbb, hc⟩ := HC.out k 0 hlt (by omega)
        have hBB : ∀ w' L, Holds E w' (base W :: L) → ∀ j, j < 5 → w'.cell? ⟨bb, oo + (k * 5 + j), none⟩ = some (.int .i64 (zs.getD (k * 5 + j) 0)) := fun w' L h j hj => by rw [← hc j hj]; exact World.cell?_of_block (w := W) (h.baseE hbb)
        have HBB := Lib.hid hBB
        clear hc hBB
        have hc0 : wr.cell? ⟨bb, oo + k * 5, none⟩ = some (.int .i64 (zs.getD (k * 5 + 0) 0)) := HBB.out _ _ HH.drop.drop 0 (by omega)
        have hc1 : wr.cell? ⟨bb, oo + k * 5 + 1, none⟩ = some (.int .i64 (zs.getD (k * 5 + 1) 0)) := HBB.out _ _ HH.drop.drop 1 (by omega)
        have hc2 : wr.cell? ⟨bb, oo + k * 5 + 2, none⟩ = some (.int .i64 (zs.getD (k * 5 + 2) 0)) := HBB.out _ _ HH.drop.drop 2 (by omega)
        have hc3 : wr.cell? ⟨bb, oo + k * 5 + 3, none⟩ = some (.int .i64 (zs.getD (k * 5 + 3) 0)) := HBB.out _ _ HH.drop.drop 3 (by omega)
        have hc4 : wr.cell? ⟨bb, oo + k * 5 + 4, none⟩ = some (.int .i64 (zs.getD (k * 5 + 4) 0)) := HBB.out _ _ HH.drop.drop 4 (by omega)
        have hB : ∀ w' L, Holds E w' (base W :: L) → w'.cell? ⟨bb, oo + k * 5 + 2, none⟩ = some (.int .i64 (zs.getD (k * 5 + 2) 0)) ∧ w'.cell? ⟨bb, oo + k * 5 + 3, none⟩ = some (.int .i64 (zs.getD (k * 5 + 3) 0)) ∧ w'.cell? ⟨bb, oo + k * 5 + 4, none⟩ = some (.int .i64 (zs.getD (k * 5 + 4) 0)) :=
          fun w' L h => ⟨HBB.out _ _ h 2 (by omega), HBB.out _ _ h 3 (by omega), HBB.out _ _ h 4 (by omega)⟩
        have HB := Lib.hid hB
        clear hB HBB
        have cs := step_any HAG.out (by omega) (zs.getD (k * 5 + 0) 0) (zs.getD (k * 5 + 1) 0) ⟨zs.getD (k * 5 + 2) 0, zs.getD (k * 5 + 3) 0, zs.getD (k * 5 + 4) 0⟩ HH
        generalize zs.getD (k * 5 + 0) 0 = y0 at *
        generalize zs.getD (k * 5 + 1) 0 = y1 at *
        generalize zs.getD (k * 5 + 2) 0 = y2 at *
        generalize zs.getD (k * 5 + 3) 0 = y3 at *
        generalize zs.getD (k * 5 + 4) 0 = y4 at *
        have HCS := Lib.hid cs
        clear cs
        go_wp2_with fail
        refine HCS.out.mono ?_
        clear HCS HH HAG hc0 hc1 hc2 hc3 hc4
        rintro e w2 ⟨v', t', x', rfl, hA, hx', H2⟩
        obtain ⟨ad2, cc2, rfl⟩ := (row.reads H2).shape
        have HMany := Lib.hid hA.many
        have hofs := hA.ofs pg 512 (by omega)
        have hlx : (ofR x' pg 512).length ≤ 512 := ofR_len _ _ _
        have HX := Lib.hid (show x'.length ≤ 1000 by omega)
        have cOR := fun (w' : World) (R : List HP) (h : Holds E w' R) (hrR : ∀ w', Holds E w' R → Reads w' (.slice ad2 x'.length cc2) 4 x'.length (hCells x')) => ofR_any h x' _ HX.out pg hrR
        have cOf := fun (w' : World) (R : List HP) (h : Holds E w' (pts b t'.obj :: R)) => hof_ok h pg
        rw [hofs] at cOf
        clear hofs
        generalize ofR x' pg 512 = xs at *
        have HOR := Lib.hid cOR
        have HOF := Lib.hid cOf
        have HAG := Lib.hid hA
        clear cOR cOf hA
        have H3 := H2.swap
        clear H2
        have hlen : ∀ w', Holds E w' [pts b t'.obj, row (.slice ad2 x'.length cc2) 113 4 x'.length (hCells x'), base W] → Calls Try.prog 19 #[.pointer (some ⟨b, 0, none⟩)] w' (Ret E (.int .i64 (x'.length : Int)) [pts b t'.obj, row (.slice ad2 x'.length cc2) 113 4 x'.length (hCells x'), base W]) := fun w' h => by rw [← HMany.out]; exact retQ (hlen_ok h) h
        have HLEN := Lib.hid hlen
        clear hlen
        have hB0 : ∀ w', Holds E w' [pts b t'.obj, row (.slice ad2 x'.length cc2) 113 4 x'.length (hCells x'), base W] → w'.cell? ⟨bb, oo + k * 5 + 2, none⟩ = some (.int .i64 y2) ∧ w'.cell? ⟨bb, oo + k * 5 + 3, none⟩ = some (.int .i64 y3) ∧ w'.cell? ⟨bb, oo + k * 5 + 4, none⟩ = some (.int .i64 y4) := fun w' h => HB.out w' _ h.drop.drop
        have hB1 : ∀ w' X, Holds E w' [X, pts b t'.obj, row (.slice ad2 x'.length cc2) 113 4 x'.length (hCells x'), base W] → w'.cell? ⟨bb, oo + k * 5 + 2, none⟩ = some (.int .i64 y2) ∧ w'.cell? ⟨bb, oo + k * 5 + 3, none⟩ = some (.int .i64 y3) ∧ w'.cell? ⟨bb, oo + k * 5 + 4, none⟩ = some (.int .i64 y4) := fun w' X h => HB.out w' _ h.drop.drop.drop
        have hB2 : ∀ w' X Y, Holds E w' [X, Y, pts b t'.obj, row (.slice ad2 x'.length cc2) 113 4 x'.length (hCells x'), base W] → w'.cell? ⟨bb, oo + k * 5 + 2, none⟩ = some (.int .i64 y2) ∧ w'.cell? ⟨bb, oo + k * 5 + 3, none⟩ = some (.int .i64 y3) ∧ w'.cell? ⟨bb, oo + k * 5 + 4, none⟩ = some (.int .i64 y4) := fun w' X Y h => HB.out w' _ h.drop.drop.drop.drop
        have HB0 := Lib.hid hB0
        have HB1 := Lib.hid hB1
        have HB2 := Lib.hid hB2
        clear hB0 hB1 hB2 HB
        have k16 : (16 : Nat) = 16 := rfl
        by_cases hp : PlaceS.ok ⟨y2, y3, y4⟩
        · have HM1 := Lib.hid (fun (w' : World) (R : List HP) (h : Holds E w' R) => hmay_yes h ⟨y2, y3, y4⟩ hp)
          have hm2 := fun (w' : World) (R : List HP) (h : Holds E w' R) => hmayR h ⟨y2, y3, y4⟩
          rw [decide_eq_true hp] at hm2
          have HM2 := Lib.hid hm2
          clear hm2 hp
          go_wp2_with fail
          have HD := H3.drawn (w2.drawn + 1)
          have q2 := (HB0.out _ H3).1
          have q3 := (HB0.out _ H3).2.1
          have q4 := (HB0.out _ H3).2.2
          go_region_held3 (fun w' => w'.cell? ⟨bb, oo + k * 5 + 2, none⟩ = some (.int .i64 y2) ∧ w'.cell? ⟨bb, oo + k * 5 + 3, none⟩ = some (.int .i64 y3) ∧ w'.cell? ⟨bb, oo + k * 5 + 4, none⟩ = some (.int .i64 y4))
            (first
              | exact HB0.out _ (by assumption)
              | exact HB1.out _ _ (by assumption)
              | exact HB2.out _ _ _ (by assumption)
              | exact ⟨(HB0.out _ (by assumption)).1, (HB0.out _ (by assumption)).2.1, (HB0.out _ (by assumption)).2.2⟩)
            (first
              | (go_at_call 44; refine (HM1.out _ _ (by assumption)).mono ?_; rintro e w4 ⟨rfl, HN⟩)
              | (go_at_call 17; refine (HM2.out _ _ (by assumption)).mono ?_; rintro e w4 ⟨rfl, HN⟩)
              | (go_at_call 19; refine (HLEN.out _ (by assumption)).mono ?_; rintro e w4 ⟨rfl, HN⟩)
              | (go_at_call 42; refine (HOF.out _ _ (by assumption)).mono ?_; rintro e w4 ⟨vv, rfl, HN⟩)
              | (go_at_call 42; refine (HOF.out _ _ (Holds.swap (by assumption))).mono ?_; rintro e w4 ⟨vv, rfl, HN0⟩; have HN := HN0.imp (fun _ => Sat.cons (fun _ => (Take.there _ (Take.here _ _)) _)); clear HN0)
              | (go_at_call 46; refine (HOR.out _ _ (by assumption) (fun w' h => by first | exact row.reads h.drop | exact row.reads h.drop.drop)).mono ?_; rintro e w4 ⟨vv, rfl, HN⟩)
              | (go_at_call 45; refine ((ints_rows (by assumption) (by assumption)).1).mono ?_; rintro e w4 ⟨rfl, HN⟩)
              | (go_at_call 45; refine ((ints_rows (by assumption) (by assumption)).2).mono ?_; rintro e w4 ⟨rfl, HN⟩))
          all_goals
            have HQ := HN.drop.drop.swap
            clear HN
            go_wp2
            go_roundw
            case rel => exact ⟨k + 1, t', x', by omega, by go_num, HAG.out, by omega, HQ⟩
            case measure => simp [intOf]; omega
        · have HM1 := Lib.hid (fun (w' : World) (R : List HP) (h : Holds E w' R) => hmay_no h ⟨y2, y3, y4⟩ hp)
          have hm2 := fun (w' : World) (R : List HP) (h : Holds E w' R) => hmayR h ⟨y2, y3, y4⟩
          rw [decide_eq_false hp] at hm2
          have HM2 := Lib.hid hm2
          clear hm2 hp
          go_wp2_with fail
          have HD := H3.drawn (w2.drawn + 1)
          have q2 := (HB0.out _ H3).1
          have q3 := (HB0.out _ H3).2.1
          have q4 := (HB0.out _ H3).2.2
          go_region_held3 (fun w' => w'.cell? ⟨bb, oo + k * 5 + 2, none⟩ = some (.int .i64 y2) ∧ w'.cell? ⟨bb, oo + k * 5 + 3, none⟩ = some (.int .i64 y3) ∧ w'.cell? ⟨bb, oo + k * 5 + 4, none⟩ = some (.int .i64 y4))
            (first
              | exact HB0.out _ (by assumption)
              | exact HB1.out _ _ (by assumption)
              | exact HB2.out _ _ _ (by assumption)
              | exact ⟨(HB0.out _ (by assumption)).1, (HB0.out _ (by assumption)).2.1, (HB0.out _ (by assumption)).2.2⟩)
            (first
              | (go_at_call 44; refine (HM1.out _ _ (by assumption)).mono ?_; rintro e w4 ⟨rfl, HN⟩)
              | (go_at_call 17; refine (HM2.out _ _ (by assumption)).mono ?_; rintro e w4 ⟨rfl, HN⟩)
              | (go_at_call 19; refine (HLEN.out _ (by assumption)).mono ?_; rintro e w4 ⟨rfl, HN⟩)
              | (go_at_call 42; refine (HOF.out _ _ (by assumption)).mono ?_; rintro e w4 ⟨vv, rfl, HN⟩)
              | (go_at_call 42; refine (HOF.out _ _ (Holds.swap (by assumption))).mono ?_; rintro e w4 ⟨vv, rfl, HN0⟩; have HN := HN0.imp (fun _ => Sat.cons (fun _ => (Take.there _ (Take.here _ _)) _)); clear HN0)
              | (go_at_call 46; refine (HOR.out _ _ (by assumption) (fun w' h => by first | exact row.reads h.drop | exact row.reads h.drop.drop)).mono ?_; rintro e w4 ⟨vv, rfl, HN⟩)
              | (go_at_call 45; refine ((ints_rows (by assumption) (by assumption)).1).mono ?_; rintro e w4 ⟨rfl, HN⟩)
              | (go_at_call 45; refine ((ints_rows (by assumption) (by assumption)).2).mono ?_; rintro e w4 ⟨rfl, HN⟩))
          all_goals
            have HQ := HN.drop.drop.swap
            clear HN
            go_wp2
            go_roundw
            case rel => exact ⟨k + 1, t', x', by omega, by go_num, HAG.out, by omega, HQ⟩
            case measure => simp [intOf]; omega
      · obtain rfl : k = n := by omega
        go_wp2_with fail
        refine (lives19 HH).mono ?_
        rintro e w2 ⟨rfl, H2⟩
        go_wp2
        go_ret
        exact ⟨rfl, hbel _ _ H2.drop.drop⟩

set_option maxRecDepth 100000 in
theorem handlePlays_arg (W : World) (v0 v1 : Value) (a0 : Arg Try.prog W 68 v0) (a1 : Arg Try.prog W 3 v1) :
    Calls Try.prog 9 #[v0, v1] W fun e w' => e = .returned (.bool true) ∧ Below W.heap.size W w' := by
  obtain ⟨n, xs, hr, _, hf⟩ := a0.slice Try.underlying68
  have h5 : Try.prog.cellsOf 39 = 5 := by kernel_rfl
  rw [h5] at hr hf
  obtain ⟨zs, rfl, hl, _⟩ := arg_flatInts hr hf (fun j hj => by
    match j, hj with
    | 0, _ => exact ⟨3, by kernel_rfl, Try.underlying3⟩
    | 1, _ => exact ⟨3, by kernel_rfl, Try.underlying3⟩
    | 2, _ => exact ⟨3, by kernel_rfl, Try.underlying3⟩
    | 3, _ => exact ⟨3, by kernel_rfl, Try.underlying3⟩
    | 4, _ => exact ⟨3, by kernel_rfl, Try.underlying3⟩)
  obtain ⟨x, rfl, _⟩ := a1.int Try.underlying3
  exact handlePlays_walk W v0 _ zs hl hr x

end Go.Proofs.Ytfjdgjdkpmljkaa
