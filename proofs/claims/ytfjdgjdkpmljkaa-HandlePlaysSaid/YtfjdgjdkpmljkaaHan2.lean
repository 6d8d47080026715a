/-
  Contracts of the package handle: Make, Of.
-/
import Derived.Test.YtfjdgjdkpmljkaaHan
namespace Go.Proofs.Ytfjdgjdkpmljkaa
open Go.RowKit

section
variable {e : Env} {w : World} {b : Nat} {t : TabS} {R : List HP}

set_option maxRecDepth 100000 in
set_option maxHeartbeats 400000 in
theorem hmake_nil (H : Holds e w R) (p : PlaceS) : Calls Try.prog 16 #[.pointer none, p.val] w (Ret e (.tuple #[.int .i64 0, .int .i64 (if p.ok then 11 else 1)]) R) := by
  by_cases hp : p.ok
  · have hv : (if p.ok then (11 : Int) else 1) = 11 := if_pos hp
    rw [hv]
    have HP := Lib.hid hp; clear hp hv
    unfold PlaceS.val
    go_enter Try.func16, Try.ntmps16
    go_wp2_with fail
    refine (hmay_yes (H.alloc _) p HP.out).mono ?_
    rintro e w1 ⟨rfl, H1⟩
    go_wp2
    go_ret2
    exact ⟨rfl, H1.drop⟩
  · have hv : (if p.ok then (11 : Int) else 1) = 1 := if_neg hp
    rw [hv]
    have HP := Lib.hid hp; clear hp hv
    unfold PlaceS.val
    go_enter Try.func16, Try.ntmps16
    go_wp2_with fail
    refine (hmay_no (H.alloc _) p HP.out).mono ?_
    rintro e w1 ⟨rfl, H1⟩
    go_wp2
    go_ret2
    exact ⟨rfl, H1.drop⟩

set_option maxRecDepth 100000 in
set_option maxHeartbeats 400000 in
theorem hmake_bad (H : Holds e w (pts b t.obj :: R)) (p : PlaceS) (hp : ¬ p.ok) : Calls Try.prog 16 #[.pointer (some ⟨b, 0, none⟩), p.val] w (Ret e (.tuple #[.int .i64 0, .int .i64 1]) (pts b t.obj :: R)) := by
  have HP := Lib.hid hp; clear hp
  unfold PlaceS.val
  go_enter Try.func16, Try.ntmps16
  go_wp2_with fail
  refine (hmay_no (H.alloc _) p HP.out).mono ?_
  rintro e w1 ⟨rfl, H1⟩
  go_wp2
  go_ret2
  exact ⟨rfl, H1.drop⟩

set_option maxRecDepth 100000 in
set_option maxHeartbeats 400000 in
theorem hmake_full (H : Holds e w (pts b t.obj :: R)) (p : PlaceS) (hp : p.ok) (hfull : ∀ h, 1 ≤ h → h ≤ 512 → t.all h ≠ PlaceS.zero) :
    Calls Try.prog 16 #[.pointer (some ⟨b, 0, none⟩), p.val] w (Ret e (.tuple #[.int .i64 0, .int .i64 11]) (pts b t.obj :: R)) := by
  have HP := Lib.hid hp; clear hp
  have HF := Lib.hid hfull; clear hfull
  unfold PlaceS.val
  go_enter Try.func16, Try.ntmps16
  go_wp2_with fail
  refine (hmay_yes (H.alloc _) p HP.out).mono ?_
  rintro e w1 ⟨rfl, H1⟩
  go_wp2
  go_loopw [12] (fun i wr => ∃ k : Nat, k ≤ 512 ∧ i = .int .i64 (k : Nat) ∧ Holds e wr (pts b t.obj :: R)) (fun i _ => 512 - (intOf i).toNat)
  case atStart => exact ⟨0, by omega, rfl, H1.drop⟩
  case round =>
    obtain ⟨k, hk, rfl, HH⟩ := hrel
    by_cases hlt : k < 512
    · go_wp2_with fail
      refine (retQ (in_yes HH _ (by omega) (by omega) (by rw [show ((k : Int) + 1).toNat = k + 1 by omega]; exact HF.out (k + 1) (by omega) (by omega))) HH).mono ?_
      rintro e w2 ⟨rfl, H2⟩
      go_wp2
      go_roundw
      case rel => exact ⟨k + 1, by omega, by go_num, H2⟩
      case measure => simp [intOf]; omega
    · go_wp2
      go_ret2
      exact ⟨rfl, HH⟩

set_option maxRecDepth 100000 in
set_option maxHeartbeats 400000 in
theorem hmake_at (H : Holds e w (pts b t.obj :: R)) (p : PlaceS) (hp : p.ok) (h : Nat) (h1 : 1 ≤ h) (h2 : h ≤ 512) (hz : t.all h = PlaceS.zero) (hused : ∀ h', 1 ≤ h' → h' < h → t.all h' ≠ PlaceS.zero) (hm : 0 ≤ t.many) (hm2 : t.many ≤ 512) :
    Calls Try.prog 16 #[.pointer (some ⟨b, 0, none⟩), p.val] w (Ret e (.tuple #[.int .i64 h, .int .i64 0]) (pts b ({ t.put h p with many := t.many + 1 } : TabS).obj :: R)) := by
  have HP := Lib.hid hp; clear hp
  have HF := Lib.hid hused; clear hused
  have HZ := Lib.hid hz; clear hz
  unfold PlaceS.val
  go_enter Try.func16, Try.ntmps16
  go_wp2_with fail
  refine (hmay_yes (H.alloc _) p HP.out).mono ?_
  rintro e w1 ⟨rfl, H1⟩
  generalize w.heap.size = bx at *
  go_wp2
  go_loopw [12] (fun i wr => ∃ k : Nat, k < h ∧ i = .int .i64 (k : Nat) ∧ Holds e wr (pts b t.obj :: pts bx (.cells #[.int .i64 p.page, .int .i64 p.obj, .int .i64 p.len] 24 (0, 0)) :: R)) (fun i _ => 512 - (intOf i).toNat)
  case atStart => exact ⟨0, by omega, rfl, H1.swap⟩
  case round =>
    obtain ⟨k, hk, rfl, HH⟩ := hrel
    by_cases hlt : k + 1 < h
    · go_wp2_with fail
      refine (retQ (in_yes HH _ (by omega) (by omega) (by rw [show ((k : Int) + 1).toNat = k + 1 by omega]; exact HF.out (k + 1) (by omega) (by omega))) HH).mono ?_
      rintro e w2 ⟨rfl, H2⟩
      go_wp2
      go_roundw
      case rel => exact ⟨k + 1, by omega, by go_num, H2⟩
      case measure => simp [intOf]; omega
    · obtain rfl : h = k + 1 := by omega
      go_wp2_with fail
      refine (retQ (in_no HH _ (.inr (.inr (by rw [show ((k : Int) + 1).toNat = k + 1 by omega]; exact HZ.out)))) HH).mono ?_
      rintro e w2 ⟨rfl, H2⟩
      obtain ⟨c0, c1, c2⟩ := tab_cells H2 (h := k + 1) (by omega)
      have c3 : w2.cell? ⟨b, 1539, none⟩ = some (.int .i64 t.many) := by unfold TabS.obj at H2; exact H2.cell TabS.cellMany
      have hfb := H2.frozen
      have hc := H2.swap.cells
      go_wp2
      go_region
      all_goals go_wp2
      all_goals go_ret2
      all_goals refine ⟨by simp; try omega, ?_⟩
      all_goals unfold TabS.obj
      all_goals rw [← TabS.cells_many]
      all_goals have e1 := TabS.cells_put (t := t) (h := k + 1) (by omega) p
      all_goals rw [← e1]
      all_goals first | exact (((((H2.set _ _).set _ _).set _ _).set 1539 _).drew.take (Take.there _ (Take.here _ _))).drop | exact (((((H2.set _ _).set _ _).set _ _).drew.set 1539 _).take (Take.there _ (Take.here _ _))).drop

/-- The handles of a page among 1 .. k. -/
def TabS.ofTo (t : TabS) (page : Int) : Nat → List Int
  | 0 => []
  | k + 1 => if t.all (k + 1) ≠ PlaceS.zero ∧ (t.all (k + 1)).page = page then t.ofTo page k ++ [((k + 1 : Nat) : Int)] else t.ofTo page k

theorem TabS.ofTo_len (t : TabS) (page : Int) : ∀ k, (t.ofTo page k).length ≤ k
  | 0 => by simp [TabS.ofTo]
  | k + 1 => by
    have := t.ofTo_len page k
    unfold TabS.ofTo
    split <;> simp <;> omega

set_option maxRecDepth 100000 in
set_option maxHeartbeats 400000 in
theorem hof_nil (x : Int) : Calls Try.prog 42 #[.pointer none, .int .i64 x] w (Quiet w (.slice none 0 0)) := by
  go_enter Try.func42, Try.ntmps42
  go_wp2
  go_loopw [5, 7] (fun v i wr => ∃ k : Nat, k ≤ 512 ∧ i = .int .i64 (k : Nat) ∧ v = .slice none 0 0 ∧ ∃ n, wr = w.drewN n) (fun _ i _ => 512 - (intOf i).toNat)
  case atStart => exact ⟨0, by omega, rfl, rfl, 0, rfl⟩
  case round =>
    obtain ⟨k, hk, rfl, rfl, nd, rfl⟩ := hrel
    by_cases hlt : k < 512
    · go_wp2_with (go_at_call 66; refine (in_nil _).mono ?_; rintro e w' ⟨rfl, m, rfl⟩)
      go_roundw
      case rel => exact ⟨k + 1, by omega, by go_num, rfl, _, rfl⟩
      case measure => simp [intOf]; omega
    · go_wp2
      go_ret
      exact ⟨rfl, _, rfl⟩

set_option maxRecDepth 100000 in
set_option maxHeartbeats 400000 in
theorem hof_ok (H : Holds e w (pts b t.obj :: R)) (x : Int) : Calls Try.prog 42 #[.pointer (some ⟨b, 0, none⟩), .int .i64 x] w
    (RetEx e (fun v => v) (fun v => row v 3 1 (t.ofTo x 512).length (ints (t.ofTo x 512)) :: pts b t.obj :: R)) := by
  go_enter Try.func42, Try.ntmps42
  go_wp2
  go_loopw [5, 7] (fun v i wr => ∃ k : Nat, k ≤ 512 ∧ i = .int .i64 (k : Nat) ∧ Holds e wr (row v 3 1 (t.ofTo x k).length (ints (t.ofTo x k)) :: pts b t.obj :: R)) (fun _ i _ => 512 - (intOf i).toNat)
  case atStart => exact ⟨0, by omega, rfl, row.nil _ _ H⟩
  case round =>
    obtain ⟨k, hk, rfl, HH⟩ := hrel
    by_cases hlt : k < 512
    · have hlen := t.ofTo_len x k
      by_cases hz : t.all (k + 1) = PlaceS.zero
      · have hstep : t.ofTo x (k + 1) = t.ofTo x k := by simp [TabS.ofTo, hz]
        have HS := Lib.hid hstep; have HZ := Lib.hid hz; clear hstep hz
        go_wp2_with fail
        refine (retQ (in_no HH.swap _ (.inr (.inr (by rw [show ((k : Int) + 1).toNat = k + 1 by omega]; exact HZ.out)))) HH).mono ?_
        rintro e w2 ⟨rfl, H2⟩
        go_wp2
        go_roundw
        case rel => exact ⟨k + 1, by omega, by go_num, by rw [HS.out]; exact H2⟩
        case measure => simp [intOf]; omega
      · have HZ := Lib.hid hz; clear hz
        go_wp2_with fail
        refine (retQ (in_yes HH.swap _ (by omega) (by omega) (by rw [show ((k : Int) + 1).toNat = k + 1 by omega]; exact HZ.out)) HH).mono ?_
        rintro e w2 ⟨rfl, H2⟩
        obtain ⟨c0, _, _⟩ := tab_cells H2.swap (h := k + 1) (by omega)
        by_cases hpg : (t.all (k + 1)).page = x
        · have hstep : t.ofTo x (k + 1) = t.ofTo x k ++ [((k + 1 : Nat) : Int)] := by
            show (if _ then _ else _) = _
            rw [if_pos ⟨HZ.out, hpg⟩]
          have HS := Lib.hid hstep; clear hstep
          have hpg' : ((t.all (k + 1)).page == x) = true := by simp [hpg]
          clear hpg
          go_wp2_with (at_builtin; refine wpList_append_sl rfl _ _ _ rfl 3 1 8 elem_int _ _ (ints (t.ofTo x k)) rfl ((H2.alloc _).swap) _ 1 (ints [((k + 1 : Nat) : Int)]) rfl ?_ (ints_one _) ?_ ?_ ?_)
          · exact reads_lit w2 [((k + 1 : Nat) : Int)] _ _ rfl
          · unfold maxLen; omega
          · omega
          intro v' w3 H3
          go_wp2
          go_roundw
          case rel => exact ⟨k + 1, by omega, by go_num, by rw [HS.out, ints_append, List.length_append]; exact (H3.swap).drop⟩
          case measure => simp [intOf]; omega
        · have hstep : t.ofTo x (k + 1) = t.ofTo x k := by
            show (if _ then _ else _) = _
            rw [if_neg (fun h => hpg h.2)]
          have HS := Lib.hid hstep; clear hstep
          have hpg' : ((t.all (k + 1)).page == x) = false := by simp [hpg]
          clear hpg
          go_wp2
          go_roundw
          case rel => exact ⟨k + 1, by omega, by go_num, by rw [HS.out]; exact H2⟩
          case measure => simp [intOf]; omega
    · obtain rfl : k = 512 := by omega
      go_wp2
      go_ret
      exact ⟨_, rfl, HH⟩
end

end Go.Proofs.Ytfjdgjdkpmljkaa
