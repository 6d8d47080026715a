/-
  Contracts of the reference of layer 19: Of; and how the list and the table agree.
-/
import Derived.Test.YtfjdgjdkpmljkaaHanR
namespace Go.Proofs.Ytfjdgjdkpmljkaa
open Go.RowKit

def ofR (x : List HE) (page : Int) : Nat → List Int
  | 0 => []
  | k + 1 => if 0 ≤ atR x ((k + 1 : Nat) : Int) ∧ (x.getD (atR x ((k + 1 : Nat) : Int)).toNat (0, PlaceS.zero)).2.page = page then ofR x page k ++ [((k + 1 : Nat) : Int)] else ofR x page k

theorem ofR_len (x : List HE) (page : Int) : ∀ k, (ofR x page k).length ≤ k
  | 0 => by simp [ofR]
  | k + 1 => by
    have := ofR_len x page k
    unfold ofR
    split <;> simp <;> omega

section
variable {e : Env} {w : World} {R : List HP}

set_option maxRecDepth 100000 in
set_option maxHeartbeats 1000000 in
theorem ofR_any (H : Holds e w R) (x : List HE) (v : Value) (hb : x.length ≤ 1000) (page : Int) (hrR : ∀ w', Holds e w' R → Reads w' v 4 x.length (hCells x)) :
    Calls Try.prog 46 #[v, .int .i64 page] w (RetEx e (fun v' => v') (fun v' => row v' 3 1 (ofR x page 512).length (ints (ofR x page 512)) :: R)) := by
  have HRR := Lib.hid hrR
  obtain ⟨ad, c, rfl⟩ := (hrR w H).shape
  clear hrR
  go_enter Try.func46, Try.ntmps46
  go_wp2
  go_loopw [5, 6] (fun v i wr => ∃ k : Nat, k ≤ 512 ∧ i = .int .i64 ((k : Int) + 1) ∧ Holds e wr (row v 3 1 (ofR x page k).length (ints (ofR x page k)) :: R)) (fun _ i _ => 513 - (intOf i).toNat)
  case atStart => exact ⟨0, by omega, rfl, row.nil _ _ H⟩
  case round =>
    obtain ⟨k, hk, rfl, HH⟩ := hrel
    by_cases hlt : k < 512
    · have hlen := ofR_len x page k
      rcases atR_cases x ((k + 1 : Nat) : Int) with ⟨hn, _⟩ | ⟨i, hi, hn, _⟩
      · have hstep : ofR x page (k + 1) = ofR x page k := by
          show (if _ then _ else _) = _
          rw [if_neg (fun h => by rw [hn] at h; omega)]
        have HS := Lib.hid hstep; have HN := Lib.hid hn; clear hstep hn
        go_wp2_with fail
        refine (retQ (atR_any x _ ((k + 1 : Nat) : Int) (by omega) (HRR.out _ HH.drop)) HH).mono ?_
        rw [HN.out]
        rintro e w2 ⟨rfl, H2⟩
        go_wp2
        go_roundw
        case rel => exact ⟨k + 1, by omega, by go_num, by rw [HS.out]; exact H2⟩
        case measure => simp [intOf]; omega
      · have HN := Lib.hid hn
        obtain ⟨g, o, rfl, _⟩ := (HRR.out _ HH.drop).at (by omega)
        by_cases hpg : (x.getD i (0, PlaceS.zero)).2.page = page
        · have hstep : ofR x page (k + 1) = ofR x page k ++ [((k + 1 : Nat) : Int)] := by
            show (if _ then _ else _) = _
            rw [if_pos ⟨by rw [hn]; omega, by rw [hn, Int.toNat_natCast]; exact hpg⟩]
          have HS := Lib.hid hstep; clear hstep hn
          go_wp2_with fail
          refine (retQ (atR_any x _ ((k + 1 : Nat) : Int) (by omega) (HRR.out _ HH.drop)) HH).mono ?_
          rw [HN.out]
          rintro e w2 ⟨rfl, H2⟩
          obtain ⟨_, p1, _, _⟩ := reads_h (HRR.out _ H2.drop) hi
          generalize (x.getD i (0, PlaceS.zero)).2.page = pg at *
          have hpg' : (pg == page) = true := by simp [hpg]
          clear hpg
          go_wp2_with (at_builtin; refine wpList_append_sl rfl _ _ _ rfl 3 1 8 elem_int _ _ (ints (ofR x page k)) rfl ((H2.alloc _).swap) _ 1 (ints [((k + 1 : Nat) : Int)]) rfl ?_ (ints_one _) ?_ ?_ ?_)
          · exact reads_lit w2 [((k + 1 : Nat) : Int)] _ _ rfl
          · unfold maxLen; omega
          · omega
          intro v' w3 H3
          go_wp2
          go_roundw
          case rel => exact ⟨k + 1, by omega, by go_num, by rw [HS.out, ints_append, List.length_append]; exact (H3.swap).drop⟩
          case measure => simp [intOf]; omega
        · have hstep : ofR x page (k + 1) = ofR x page k := by
            show (if _ then _ else _) = _
            rw [if_neg (fun h => hpg (by have h2 := h.2; rw [hn, Int.toNat_natCast] at h2; exact h2))]
          have HS := Lib.hid hstep; clear hstep hn
          go_wp2_with fail
          refine (retQ (atR_any x _ ((k + 1 : Nat) : Int) (by omega) (HRR.out _ HH.drop)) HH).mono ?_
          rw [HN.out]
          rintro e w2 ⟨rfl, H2⟩
          obtain ⟨_, p1, _, _⟩ := reads_h (HRR.out _ H2.drop) hi
          generalize (x.getD i (0, PlaceS.zero)).2.page = pg at *
          have hpg' : (pg == page) = false := by simp [hpg]
          clear hpg
          go_wp2
          go_roundw
          case rel => exact ⟨k + 1, by omega, by go_num, by rw [HS.out]; exact H2⟩
          case measure => simp [intOf]; omega
    · obtain rfl : k = 512 := by omega
      go_wp2
      go_ret
      exact ⟨_, rfl, HH⟩
end

/-- The table has the list's handles, and no others. -/
structure Agree (t : TabS) (x : List HE) : Prop where
  yes : ∀ k, k < x.length → 1 ≤ (x.getD k (0, PlaceS.zero)).1 ∧ (x.getD k (0, PlaceS.zero)).1 ≤ 512 ∧ (x.getD k (0, PlaceS.zero)).2.ok ∧ t.all (x.getD k (0, PlaceS.zero)).1.toNat = (x.getD k (0, PlaceS.zero)).2
  no : ∀ h : Nat, 1 ≤ h → h ≤ 512 → t.all h ≠ PlaceS.zero → 0 ≤ atR x h
  nodup : ∀ j k, j < k → k < x.length → (x.getD j (0, PlaceS.zero)).1 ≠ (x.getD k (0, PlaceS.zero)).1
  many : t.many = x.length

end Go.Proofs.Ytfjdgjdkpmljkaa
