/-
  HandleFull: the walk.
-/
import Derived.Test.YtfjdgjdkpmljkaaHan3
import Derived.Test.YtfjdgjdkpmljkaaFlat
namespace Go.Proofs.Ytfjdgjdkpmljkaa
open Go.RowKit

theorem TabS.free_is {t : TabS} {h : Nat} (h1 : 1 ≤ h) (h2 : h ≤ 512) (hz : t.all h = PlaceS.zero) (hu : ∀ h', 1 ≤ h' → h' < h → t.all h' ≠ PlaceS.zero) : t.free = some h := by
  cases hf : t.free with
  | none => exact absurd hz (TabS.free_none hf h h1 h2)
  | some h' =>
    obtain ⟨g1, g2, g3, g4⟩ := TabS.free_some hf
    rcases Nat.lt_trichotomy h h' with hl | rfl | hl
    · exact absurd hz (g4 h h1 hl)
    · rfl
    · exact absurd g3 (hu h' g1 hl)
theorem TabS.free_isNone {t : TabS} (hu : ∀ h', 1 ≤ h' → h' ≤ 512 → t.all h' ≠ PlaceS.zero) : t.free = none := by
  cases hf : t.free with
  | none => rfl
  | some h' =>
    obtain ⟨g1, g2, g3, g4⟩ := TabS.free_some hf
    exact absurd g3 (hu h' g1 g2)

theorem PlaceS.ne_zero {p : PlaceS} (h : p.ok) : p ≠ PlaceS.zero := by
  rintro rfl
  exact absurd h.2.2.2.2.1 (by decide)

theorem TabS.make_some {t : TabS} {p : PlaceS} {h : Nat} (hp : p.ok) (hf : t.free = some h) : t.make p = (((h : Int), 0), { t.put h p with many := t.many + 1 }) := by
  unfold TabS.make
  rw [if_pos hp, hf]
theorem TabS.make_none {t : TabS} {p : PlaceS} (hp : p.ok) (hf : t.free = none) : t.make p = ((0, 11), t) := by
  unfold TabS.make
  rw [if_pos hp, hf]
theorem TabS.make_bad {t : TabS} {p : PlaceS} (hp : ¬ p.ok) : t.make p = ((0, 1), t) := by
  unfold TabS.make
  rw [if_neg hp]

def tabFill (k : Nat) : TabS := ⟨fun h => if 1 ≤ h ∧ h ≤ k then ⟨(h : Int) - 1, 0, 1⟩ else PlaceS.zero, k⟩
theorem TabS.inb_mk {t : TabS} {x : Int} (h1 : 1 ≤ x) (h2 : x ≤ 512) (h3 : t.all x.toNat ≠ PlaceS.zero) : t.inb x = true := decide_eq_true ⟨h1, h2, h3⟩
theorem tabFill_in {k h : Nat} (h1 : 1 ≤ h) (h2 : h ≤ k) : (tabFill k).all h = ⟨(h : Int) - 1, 0, 1⟩ := if_pos ⟨h1, h2⟩
theorem tabFill_out {k h : Nat} (h2 : k < h) : (tabFill k).all h = PlaceS.zero := if_neg (by omega)
theorem place_one (x : Int) : (⟨x, 0, 1⟩ : PlaceS) ≠ PlaceS.zero := by simp [PlaceS.zero]
theorem tabFill_zero : tabFill 0 = TabS.zero := by
  unfold tabFill TabS.zero
  congr 1
  funext h
  rw [if_neg (by omega)]
set_option maxRecDepth 100000 in
theorem tabFill_make {k : Nat} (hk : k < 512) : (tabFill k).make ⟨k, 0, 1⟩ = (((k : Int) + 1, 0), tabFill (k + 1)) := by
  have hp : PlaceS.ok ⟨k, 0, 1⟩ := by unfold PlaceS.ok; simp; omega
  have hf : (tabFill k).free = some (k + 1) := TabS.free_is (by omega) (by omega) (tabFill_out (by omega)) (fun h' h1 h2 => by rw [tabFill_in h1 (by omega)]; exact place_one _)
  have key : ({ (tabFill k).put (k + 1) ⟨k, 0, 1⟩ with many := (tabFill k).many + 1 } : TabS) = tabFill (k + 1) := by
   unfold TabS.put tabFill
   simp only
   congr 1
   funext h
   by_cases hh : h = k + 1
   · subst hh; rw [if_pos rfl, if_pos (by omega)]; congr 1; omega
   · rw [if_neg hh]
     by_cases h1 : 1 ≤ h ∧ h ≤ k
     · rw [if_pos h1, if_pos (by omega)]
     · rw [if_neg h1, if_neg (by omega)]
  rw [TabS.make_some hp hf, key]
  rfl

theorem tabFill_full (p : PlaceS) : (tabFill 512).make p = ((0, if p.ok then 11 else 1), tabFill 512) := by
  by_cases hp : p.ok
  · rw [if_pos hp, TabS.make_none hp (TabS.free_isNone fun h' h1 h2 => by rw [tabFill_in h1 h2]; exact place_one _)]
  · rw [if_neg hp, TabS.make_bad hp]

theorem tabFill_drop {d : Nat} (h1 : 1 ≤ d) (h2 : d ≤ 512) : ∃ t, (tabFill 512).drop d = ((⟨(d : Int) - 1, 0, 1⟩, true), t) ∧ t.many = 511 ∧ (t.make ⟨0, 0, 7⟩).1 = ((d : Int), 0) ∧ (t.make ⟨0, 0, 7⟩).2.many = 512 := by
  have hd := tabFill_in h1 h2
  have hi : (tabFill 512).inb d = true := TabS.inb_mk (by omega) (by omega) (by rw [Int.toNat_natCast, hd]; exact place_one _)
  refine ⟨{ (tabFill 512).put d PlaceS.zero with many := 511 }, ?_, rfl, ?_⟩
  · unfold TabS.drop
    rw [if_pos hi, Int.toNat_natCast, hd]
    rfl
  · have hp : PlaceS.ok ⟨0, 0, 7⟩ := by decide
    have hf : TabS.free ({ (tabFill 512).put d PlaceS.zero with many := 511 } : TabS) = some d := by
      refine TabS.free_is h1 h2 (if_pos rfl) fun h' g1 g2 => ?_
      rw [show ({ (tabFill 512).put d PlaceS.zero with many := 511 } : TabS).all h' = (tabFill 512).all h' from if_neg (by omega), tabFill_in g1 (by omega)]
      exact place_one _
    rw [TabS.make_some hp hf]
    exact ⟨rfl, rfl⟩

set_option maxHeartbeats 400000 in
theorem hmayR {e : Env} {w : World} {R : List HP} (H : Holds e w R) (p : PlaceS) : Calls Try.prog 17 #[p.val] w (Ret e (.bool (decide p.ok)) R) := by
  by_cases h : p.ok
  · have hv : decide p.ok = true := by simpa using h
    rw [hv]
    clear hv
    obtain ⟨h1, h2, h3, h4, h5, h6⟩ := h
    unfold PlaceS.val
    go_enter Try.func17, Try.ntmps17
    go_wp2
    go_ret
    exact ⟨by simp; try omega, (H.alloc _).drop⟩
  · have hv : decide p.ok = false := by simpa using h
    rw [hv]
    clear hv
    have h' : p.page < 0 ∨ (0 ≤ p.page ∧ 4096 ≤ p.page) ∨ (0 ≤ p.page ∧ p.page < 4096 ∧ p.obj < 0) ∨ (0 ≤ p.page ∧ p.page < 4096 ∧ 0 ≤ p.obj ∧ 256 ≤ p.obj) ∨ (0 ≤ p.page ∧ p.page < 4096 ∧ 0 ≤ p.obj ∧ p.obj < 256 ∧ p.len < 1) ∨ (0 ≤ p.page ∧ p.page < 4096 ∧ 0 ≤ p.obj ∧ p.obj < 256 ∧ 1 ≤ p.len ∧ 4096 < p.len) := by
      unfold PlaceS.ok at h; omega
    clear h
    unfold PlaceS.val
    rcases h' with g | ⟨g1, g2⟩ | ⟨g1, g2, g3⟩ | ⟨g1, g2, g3, g4⟩ | ⟨g1, g2, g3, g4, g5⟩ | ⟨g1, g2, g3, g4, g5, g6⟩
    all_goals
      go_enter Try.func17, Try.ntmps17
      go_wp2
      go_ret
      exact ⟨by simp; try omega, (H.alloc _).drop⟩

set_option maxRecDepth 100000 in
set_option maxHeartbeats 1000000 in
theorem handleFull_walk (W : World) (x : Int) (hx0 : 0 ≤ x) (hx1 : x ≤ 65535) (p : PlaceS) :
    Calls Try.prog 3 #[.int .u16 x, p.val] W fun e w' => e = .returned (.bool true) ∧ Below W.heap.size W w' := by
  have H0 := Holds.start W
  generalize hE : (⟨W.os, W.output, W.tape⟩ : Env) = E at *
  have hbel : ∀ w' A, Holds E w' (base W :: A) → Below W.heap.size W w' := fun w' A h => by subst hE; exact h.below rfl rfl rfl
  clear hE
  unfold PlaceS.val
  go_enter Try.func3, Try.ntmps3
  go_wp2_with fail
  refine (tabNew_any (H0.alloc (.cells #[.int .i64 p.page, .int .i64 p.obj, .int .i64 p.len] 24))).mono ?_
  rintro e w1 ⟨b, rfl, H1⟩
  rw [← tabFill_zero] at H1
  generalize hbx : W.heap.size = bx at *
  have HBX := Lib.hid hbx; clear hbx
  go_wp2
  go_loopw [6] (fun i wr => ∃ k : Nat, k ≤ 512 ∧ i = .int .i64 (k : Nat) ∧ Holds E wr [pts b (tabFill k).obj, pts bx (.cells #[.int .i64 p.page, .int .i64 p.obj, .int .i64 p.len] 24 (0, 0)), base W]) (fun i _ => 512 - (intOf i).toNat)
  case atStart => exact ⟨0, by omega, rfl, H1⟩
  case round =>
    obtain ⟨k, hk, rfl, HH⟩ := hrel
    by_cases hlt : k < 512
    · have c1 := hmake HH ⟨k, 0, 1⟩ (by simp [tabFill]) (by simp [tabFill]; omega)
      rw [tabFill_make hlt] at c1
      go_wp2_with fail
      refine c1.mono ?_
      rintro e w2 ⟨rfl, H2⟩
      go_wp2
      go_roundw
      case rel => exact ⟨k + 1, by omega, by go_num, H2⟩
      case measure => simp [intOf]; omega
    · obtain rfl : k = 512 := by omega
      have c1 := hmake HH p (by simp [tabFill]) (by simp [tabFill])
      rw [tabFill_full p] at c1
      have hc1 := HH.swap.cells
      go_wp2_with fail
      refine c1.mono ?_
      rintro e w2 ⟨rfl, H2⟩
      clear c1
      have hc2 := H2.swap.cells
      obtain ⟨d, hd⟩ : ∃ d : Nat, 1 + x % 512 = (d : Int) := ⟨(1 + x % 512).toNat, by omega⟩
      obtain ⟨t', d1, d2, d3, d4⟩ := tabFill_drop (d := d) (by omega) (by omega)
      have HD1 := Lib.hid d1; have HD2 := Lib.hid d2; have HD3 := Lib.hid d3; have HD4 := Lib.hid d4
      have HDD := Lib.hid hd
      have hd1 : 1 ≤ d := by omega
      have hd2 : d ≤ 512 := by omega
      clear d1 d2 d3 d4 hd
      by_cases hp : p.ok
      · have HP := Lib.hid hp
        simp only [hp, if_true]
        clear hp
        go_wp2_with fail
        refine (hmayR H2 p).mono ?_
        rw [decide_eq_true HP.out]
        rintro e w3 ⟨rfl, H3⟩
        go_wp2_with fail
        rw [HDD.out]
        have c2 := hdrop H3 (d : Int) (by simp [tabFill]) (by simp [tabFill])
        rw [HD1.out] at c2
        refine c2.mono ?_
        rintro e w4 ⟨rfl, H4⟩
        clear c2
        have H4a := (Holds.alloc H4 (.cells #[.int .i64 ((d : Int) - 1), .int .i64 0, .int .i64 1] 24)).swap
        unfold PlaceS.val
        go_wp2_with fail
        have c3 := hmake H4a ⟨0, 0, 7⟩ (by rw [HD2.out]; decide) (by rw [HD2.out]; decide)
        rw [HD3.out] at c3
        dsimp only at c3
        generalize w4.heap.size = bq at *
        refine c3.mono ?_
        rintro e w5 ⟨rfl, H5⟩
        clear c3
        have hc5 := H5.swap.cells
        clear hlt hk hc1 HH H2 hc2 H3 H4
        go_wp2_with fail
        refine (retQ (hlen_ok H5) H5).mono ?_
        rw [HD4.out]
        rintro e w6 ⟨rfl, H6⟩
        go_wp2_with fail
        refine (lives19 H6).mono ?_
        rintro e w7 ⟨rfl, H7⟩
        go_wp2
        go_ret
        exact ⟨rfl, by rw [HBX.out] at *; exact hbel _ _ H7.drop.drop.drop⟩
      · have HP := Lib.hid hp
        simp only [hp, if_false]
        clear hp
        go_wp2_with fail
        refine (hmayR H2 p).mono ?_
        rw [decide_eq_false HP.out]
        rintro e w3 ⟨rfl, H3⟩
        go_wp2_with fail
        rw [HDD.out]
        have c2 := hdrop H3 (d : Int) (by simp [tabFill]) (by simp [tabFill])
        rw [HD1.out] at c2
        refine c2.mono ?_
        rintro e w4 ⟨rfl, H4⟩
        clear c2
        have H4a := (Holds.alloc H4 (.cells #[.int .i64 ((d : Int) - 1), .int .i64 0, .int .i64 1] 24)).swap
        unfold PlaceS.val
        go_wp2_with fail
        have c3 := hmake H4a ⟨0, 0, 7⟩ (by rw [HD2.out]; decide) (by rw [HD2.out]; decide)
        rw [HD3.out] at c3
        dsimp only at c3
        generalize w4.heap.size = bq at *
        refine c3.mono ?_
        rintro e w5 ⟨rfl, H5⟩
        clear c3
        have hc5 := H5.swap.cells
        clear hlt hk hc1 HH H2 hc2 H3 H4
        go_wp2_with fail
        refine (retQ (hlen_ok H5) H5).mono ?_
        rw [HD4.out]
        rintro e w6 ⟨rfl, H6⟩
        go_wp2_with fail
        refine (lives19 H6).mono ?_
        rintro e w7 ⟨rfl, H7⟩
        go_wp2
        go_ret
        exact ⟨rfl, by rw [HBX.out] at *; exact hbel _ _ H7.drop.drop.drop⟩


set_option maxRecDepth 100000 in
theorem place_arg {W : World} {v : Value} (a : Arg Try.prog W 24 v) : ∃ p : PlaceS, v = p.val ∧ (Lit.int .i64 p.page).wf = true ∧ (Lit.int .i64 p.obj).wf = true ∧ (Lit.int .i64 p.len).wf = true := by
  obtain ⟨cs, rfl, hs, hf⟩ := a.struct Try.underlying24
  have h3 : Try.prog.cellsOf 24 = 3 := by kernel_rfl
  have h1 : Try.prog.cellsOf 3 = 1 := by kernel_rfl
  rw [h3] at hs
  have f0 : Flat Try.prog W 5 3 ((cs.toList.drop 0).take (Try.prog.cellsOf 3)) := hf 0 _ rfl
  have f1 : Flat Try.prog W 5 3 ((cs.toList.drop 1).take (Try.prog.cellsOf 3)) := hf 1 _ rfl
  have f2 : Flat Try.prog W 5 3 ((cs.toList.drop 2).take (Try.prog.cellsOf 3)) := hf 2 _ rfl
  rw [h1] at f0 f1 f2
  obtain ⟨x, hx, wx⟩ := f0.int Try.underlying3
  obtain ⟨y, hy, wy⟩ := f1.int Try.underlying3
  obtain ⟨z, hz, wz⟩ := f2.int Try.underlying3
  refine ⟨⟨x, y, z⟩, ?_, wx, wy, wz⟩
  obtain ⟨l⟩ := cs
  match l, hs with
  | [c0, c1, c2], _ =>
    simp at hx hy hz
    subst hx hy hz
    rfl

set_option maxRecDepth 100000 in
theorem handleFull_arg (W : World) (v0 v1 : Value) (a0 : Arg Try.prog W 22 v0) (a1 : Arg Try.prog W 24 v1) :
    Calls Try.prog 3 #[v0, v1] W fun e w' => e = .returned (.bool true) ∧ Below W.heap.size W w' := by
  obtain ⟨x, rfl, hx⟩ := a0.int Try.underlying22
  obtain ⟨p, rfl, _⟩ := place_arg a1
  exact handleFull_walk W x (wf_u16 hx).1 (wf_u16 hx).2 p

end Go.Proofs.Ytfjdgjdkpmljkaa
