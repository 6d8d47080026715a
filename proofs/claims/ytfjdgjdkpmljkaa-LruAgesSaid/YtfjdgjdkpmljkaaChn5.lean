/-
  The chain: New.
-/
import Derived.Test.YtfjdgjdkpmljkaaChn4
import Derived.BigRegion
import Derived.Laws.MakeOwn
namespace Go.Proofs.Ytfjdgjdkpmljkaa
open Go.RowKit

section
variable {e : Env} {w : World} {R : List HP}

theorem madeI (n : Nat) : madeCells #[Value.int .i64 0] n = (ints (List.replicate n 0)).toArray := by
  apply Array.toList_inj.1
  simp [madeCells, ints, Array.toList_range, List.map_const', Nat.mod_one]
theorem madeB (n : Nat) : madeCells #[Value.bool false] n = (boolVs (List.replicate n false)).toArray := by
  apply Array.toList_inj.1
  simp [madeCells, boolVs, Array.toList_range, List.map_const', Nat.mod_one]

theorem mkI (n : Nat) (hn : n ≤ 4096) (z : Int) (hz : (n : Int) = z) (W : World) : (Instr.makeSlice 56 (.int .i64 z) (.int .i64 z)).run Try.prog W = .ok (.slice (some ⟨W.heap.size, 0, none⟩) n n) (W.alloc (.cells (ints (List.replicate n 0)).toArray 3)) := by
  subst hz
  obtain ⟨i0, hi, hz0, hz1, hz2⟩ := info_parts (P := Try.prog) (e := 3) (z := .int .i64 0) (size := 1) (bytes := 8) (by kernel_rfl)
  have h := run_make (P := Try.prog) W 56 3 i0 (.int .i64 0) (by kernel_rfl) hi hz0 .i64 .i64 (n : Int) (n : Int) (by omega) (by omega) (by rw [hz2]; omega) (by omega)
  rw [hz1] at h
  simpa [madeI, Value.cells] using h
theorem mkB (n : Nat) (hn : n ≤ 4096) (z : Int) (hz : (n : Int) = z) (W : World) : (Instr.makeSlice 104 (.int .i64 z) (.int .i64 z)).run Try.prog W = .ok (.slice (some ⟨W.heap.size, 0, none⟩) n n) (W.alloc (.cells (boolVs (List.replicate n false)).toArray 4)) := by
  subst hz
  obtain ⟨i0, hi, hz0, hz1, hz2⟩ := info_parts (P := Try.prog) (e := 4) (z := .bool false) (size := 1) (bytes := 1) (by kernel_rfl)
  have h := run_make (P := Try.prog) W 104 4 i0 (.bool false) (by kernel_rfl) hi hz0 .i64 .i64 (n : Int) (n : Int) (by omega) (by omega) (by rw [hz2]; omega) (by omega)
  rw [hz1] at h
  simpa [madeB, Value.cells] using h

theorem Sat.sw {X Y : HP} {A : List HP} (h : PH) (s : Sat (X :: Y :: A) h) : Sat (Y :: X :: A) h := Take.there _ (Take.here _ _) h s
theorem Sat.sw2 {X Y Z : HP} {A : List HP} (h : PH) (s : Sat (X :: Y :: Z :: A) h) : Sat (X :: Z :: Y :: A) h := Sat.cons (Sat.sw) s

theorem chObj_zero (n g1 g2 g3 : Nat) : chObj (ChainS.zero n) g1 g2 g3 = .cells #[.slice (some ⟨g1, 0, none⟩) n n, .slice (some ⟨g2, 0, none⟩) n n, .slice (some ⟨g3, 0, none⟩) n n, .int .i64 (-1), .int .i64 (-1), .int .i64 0] 106 (0, 0) := by
  simp [chObj, ChainS.zero]


set_option maxRecDepth 100000 in
set_option maxHeartbeats 800000 in
theorem chNew_mid (H : Holds e w R) (n : Nat) (h1 : 0 < (n : Int)) (h2 : (n : Int) < 4096) :
    Calls Try.prog 32 #[.int .i64 n] w (RetEx e (fun g : Nat × Nat × Nat × Nat => .pointer (some ⟨g.1, 0, none⟩)) (fun g => pts g.1 (chObj (ChainS.zero n) g.2.1 g.2.2.1 g.2.2.2) :: pts g.2.1 (intsObj (ChainS.zero n).nx) :: pts g.2.2.1 (intsObj (ChainS.zero n).la) :: pts g.2.2.2 (boolsObj (ChainS.zero n).th) :: R)) := by
    have hI := mkI n (by omega) n rfl
    have hB := mkB n (by omega) n rfl
    simp only [chObj_zero]
    go_enter Try.func32, Try.ntmps32
    go_wp2_with fail
    go_region
    all_goals
      refine gen_world (show Holds e (World.drew _) _ from ((((H.alloc _).alloc _).alloc _).alloc _).drew) ?_
      intro w' HF
      simp only [World.size_alloc] at HF
      go_wp2_with fail
      go_ret
      first
        | exact ⟨(_, _, _, _), rfl, HF⟩
        | exact ⟨(_, _, _, _), rfl, HF.imp (fun _ => Sat.cons (fun _ s => Sat.sw _ s))⟩
        | exact ⟨(_, _, _, _), rfl, HF.imp (fun _ => Sat.cons (fun _ s => Sat.sw2 _ s))⟩
        | exact ⟨(_, _, _, _), rfl, HF.imp (fun _ => Sat.cons (fun _ s => Sat.sw _ (Sat.sw2 _ s)))⟩
        | exact ⟨(_, _, _, _), rfl, HF.imp (fun _ => Sat.cons (fun _ s => Sat.sw2 _ (Sat.sw _ s)))⟩
        | exact ⟨(_, _, _, _), rfl, HF.imp (fun _ => Sat.cons (fun _ s => Sat.sw _ (Sat.sw2 _ (Sat.sw _ s))))⟩
set_option maxRecDepth 100000 in
set_option maxHeartbeats 800000 in
theorem chNew_hi (H : Holds e w R) (n : Nat) (hn : n = 4096) (s : Int) (hs : 4096 ≤ s) :
    Calls Try.prog 32 #[.int .i64 s] w (RetEx e (fun g : Nat × Nat × Nat × Nat => .pointer (some ⟨g.1, 0, none⟩)) (fun g => pts g.1 (chObj (ChainS.zero n) g.2.1 g.2.2.1 g.2.2.2) :: pts g.2.1 (intsObj (ChainS.zero n).nx) :: pts g.2.2.1 (intsObj (ChainS.zero n).la) :: pts g.2.2.2 (boolsObj (ChainS.zero n).th) :: R)) := by
    have hI := mkI n (by omega) 4096 (by omega)
    have hB := mkB n (by omega) 4096 (by omega)
    simp only [chObj_zero]
    clear hn
    rcases (by omega : s = 4096 ∨ 4096 < s) with rfl | hs'
    ·     go_enter Try.func32, Try.ntmps32
          go_wp2_with fail
          go_region
          all_goals
            refine gen_world (show Holds e (World.drew _) _ from ((((H.alloc _).alloc _).alloc _).alloc _).drew) ?_
            intro w' HF
            simp only [World.size_alloc] at HF
            go_wp2_with fail
            go_ret
            first
              | exact ⟨(_, _, _, _), rfl, HF⟩
              | exact ⟨(_, _, _, _), rfl, HF.imp (fun _ => Sat.cons (fun _ s => Sat.sw _ s))⟩
              | exact ⟨(_, _, _, _), rfl, HF.imp (fun _ => Sat.cons (fun _ s => Sat.sw2 _ s))⟩
              | exact ⟨(_, _, _, _), rfl, HF.imp (fun _ => Sat.cons (fun _ s => Sat.sw _ (Sat.sw2 _ s)))⟩
              | exact ⟨(_, _, _, _), rfl, HF.imp (fun _ => Sat.cons (fun _ s => Sat.sw2 _ (Sat.sw _ s)))⟩
              | exact ⟨(_, _, _, _), rfl, HF.imp (fun _ => Sat.cons (fun _ s => Sat.sw _ (Sat.sw2 _ (Sat.sw _ s))))⟩
    ·     go_enter Try.func32, Try.ntmps32
          go_wp2_with fail
          go_region
          all_goals
            refine gen_world (show Holds e (World.drew _) _ from ((((H.alloc _).alloc _).alloc _).alloc _).drew) ?_
            intro w' HF
            simp only [World.size_alloc] at HF
            go_wp2_with fail
            go_ret
            first
              | exact ⟨(_, _, _, _), rfl, HF⟩
              | exact ⟨(_, _, _, _), rfl, HF.imp (fun _ => Sat.cons (fun _ s => Sat.sw _ s))⟩
              | exact ⟨(_, _, _, _), rfl, HF.imp (fun _ => Sat.cons (fun _ s => Sat.sw2 _ s))⟩
              | exact ⟨(_, _, _, _), rfl, HF.imp (fun _ => Sat.cons (fun _ s => Sat.sw _ (Sat.sw2 _ s)))⟩
              | exact ⟨(_, _, _, _), rfl, HF.imp (fun _ => Sat.cons (fun _ s => Sat.sw2 _ (Sat.sw _ s)))⟩
              | exact ⟨(_, _, _, _), rfl, HF.imp (fun _ => Sat.cons (fun _ s => Sat.sw _ (Sat.sw2 _ (Sat.sw _ s))))⟩
set_option maxRecDepth 100000 in
set_option maxHeartbeats 800000 in
theorem chNew_lo (H : Holds e w R) (n : Nat) (hn : n = 0) (s : Int) (hs : s ≤ 0) :
    Calls Try.prog 32 #[.int .i64 s] w (RetEx e (fun g : Nat × Nat × Nat × Nat => .pointer (some ⟨g.1, 0, none⟩)) (fun g => pts g.1 (chObj (ChainS.zero n) g.2.1 g.2.2.1 g.2.2.2) :: pts g.2.1 (intsObj (ChainS.zero n).nx) :: pts g.2.2.1 (intsObj (ChainS.zero n).la) :: pts g.2.2.2 (boolsObj (ChainS.zero n).th) :: R)) := by
    have hI := mkI n (by omega) 0 (by omega)
    have hB := mkB n (by omega) 0 (by omega)
    simp only [chObj_zero]
    clear hn
    go_enter Try.func32, Try.ntmps32
    go_wp2_with fail
    go_region
    all_goals
      refine gen_world (show Holds e (World.drew _) _ from ((((H.alloc _).alloc _).alloc _).alloc _).drew) ?_
      intro w' HF
      simp only [World.size_alloc] at HF
      go_wp2_with fail
      go_ret
      first
        | exact ⟨(_, _, _, _), rfl, HF⟩
        | exact ⟨(_, _, _, _), rfl, HF.imp (fun _ => Sat.cons (fun _ s => Sat.sw _ s))⟩
        | exact ⟨(_, _, _, _), rfl, HF.imp (fun _ => Sat.cons (fun _ s => Sat.sw2 _ s))⟩
        | exact ⟨(_, _, _, _), rfl, HF.imp (fun _ => Sat.cons (fun _ s => Sat.sw _ (Sat.sw2 _ s)))⟩
        | exact ⟨(_, _, _, _), rfl, HF.imp (fun _ => Sat.cons (fun _ s => Sat.sw2 _ (Sat.sw _ s)))⟩
        | exact ⟨(_, _, _, _), rfl, HF.imp (fun _ => Sat.cons (fun _ s => Sat.sw _ (Sat.sw2 _ (Sat.sw _ s))))⟩
theorem chNew_any (H : Holds e w R) (s : Int) (n : Nat) (hs : max 0 (min 4096 s) = n) :
    Calls Try.prog 32 #[.int .i64 s] w (RetEx e (fun g : Nat × Nat × Nat × Nat => .pointer (some ⟨g.1, 0, none⟩)) (fun g => pts g.1 (chObj (ChainS.zero n) g.2.1 g.2.2.1 g.2.2.2) :: pts g.2.1 (intsObj (ChainS.zero n).nx) :: pts g.2.2.1 (intsObj (ChainS.zero n).la) :: pts g.2.2.2 (boolsObj (ChainS.zero n).th) :: R)) := by
  rcases (by omega : (0 < (n : Int) ∧ (n : Int) < 4096 ∧ s = n) ∨ (4096 ≤ s ∧ n = 4096) ∨ (s ≤ 0 ∧ n = 0)) with ⟨h1, h2, h⟩ | ⟨h, hn⟩ | ⟨h, hn⟩
  · subst h; exact chNew_mid H n h1 h2
  · exact chNew_hi H n hn s h
  · exact chNew_lo H n hn s h
end
end Go.Proofs.Ytfjdgjdkpmljkaa
