/-
  gunnylaw19.step: a deed on both.
-/
import Derived.Test.YtfjdgjdkpmljkaaHanA
namespace Go.Proofs.Ytfjdgjdkpmljkaa
open Go.RowKit

theorem Holds.dropAt2 {e : Env} {w : World} {X Y Z : HP} {A : List HP} (h : Holds e w (X :: Y :: Z :: A)) : Holds e w (X :: Y :: A) := h.imp fun _ => Sat.cons fun _ => Sat.cons fun _ => Sat.drop

theorem Holds.drop2 {e : Env} {w : World} {X Y : HP} {A : List HP} (h : Holds e w (X :: Y :: A)) : Holds e w (X :: A) := h.swap.drop

def StepPost (e : Env) (b : Nat) (n : Nat) (R : List HP) : Ending → World → Prop := fun en w' =>
  ∃ v' t' x', en = .returned (.tuple #[v', .bool true]) ∧ Agree t' x' ∧ x'.length ≤ n + 1 ∧ Holds e w' (row v' 113 4 x'.length (hCells x') :: pts b t'.obj :: R)

def deedObj (K h : Int) (P : PlaceS) : Obj := .cells #[.int .i64 K, .int .i64 h, .int .i64 P.page, .int .i64 P.obj, .int .i64 P.len] 39 (0, 0)
def pObj (P : PlaceS) : Obj := .cells #[.int .i64 P.page, .int .i64 P.obj, .int .i64 P.len] 31 (0, 0)

section
variable {e : Env} {w : World} {R : List HP} {b : Nat} {t : TabS} {x : List HE} {v : Value}

set_option maxRecDepth 100000 in
set_option maxHeartbeats 1000000 in
theorem step_make (A : Agree t x) (hl : x.length ≤ 60) (K h : Int) (P : PlaceS) (hK : (K == 0) = true ∨ ((K == 0) = false ∧ (K == 1) = true)) (H : Holds e w (row v 113 4 x.length (hCells x) :: pts b t.obj :: R)) :
    Calls Try.prog 43 #[.pointer (some ⟨b, 0, none⟩), v, .agg #[.int .i64 K, .int .i64 h, .int .i64 P.page, .int .i64 P.obj, .int .i64 P.len]] w (StepPost e b x.length R) := by
  have HA := Lib.hid A
  have HM := Lib.hid A.many
  clear A
  rcases hK with g0 | ⟨g0, g1⟩
  all_goals
    go_enter Try.func43, Try.ntmps43
    have H1 := (H.alloc (deedObj K h P))
    have H2 := (H1.alloc (pObj P))
    have hrA : ∀ w', Holds e w' (row v 113 4 x.length (hCells x) :: pts b t.obj :: R) → Reads w' v 4 x.length (hCells x) := fun w' h => row.reads h
    have HRA := Lib.hid hrA
    clear hrA
    unfold deedObj at H1
    unfold deedObj pObj at H2
    go_wp2_with fail
    have cat := retQ (atR_any x v h (by omega) (HRA.out _ H2.drop.drop)) H2
    generalize hbp : (w.alloc (.cells #[.int .i64 K, .int .i64 h, .int .i64 P.page, .int .i64 P.obj, .int .i64 P.len] 39 (0, 0))).heap.size = bp at *
    have hbp' : w.heap.size + 1 = bp := by rw [← hbp]; simp
    rw [hbp']
    generalize w.heap.size = bd at *
    clear hbp hbp' H1 H
    refine cat.mono ?_
    clear cat
    generalize hat : atR x h = i at *
    have HAT := Lib.hid hat
    clear hat
    rintro e w1 ⟨rfl, H3⟩
    clear H2
    have hcp := H3.cells
    have hcd := H3.swap.cells
    have hfp := H3.frozen
    by_cases hp : P.ok
    · obtain ⟨h0, f1, f2, f3, f4, f5⟩ := HA.out.free (by omega)
      have HF := Lib.hid (TabS.make_some (p := P) hp f1)
      have HAG := Lib.hid (HA.out.make hp f2 f3 f4)
      have c1 := makeR_ok H3 x v (by omega) P hp h0 f2 f3 f4 f5 (fun w' h => row.reads h.drop.drop)
      clear f1 f4 f5 hp
      unfold PlaceS.val at c1
      go_wp2_with fail
      refine c1.mono ?_
      rintro e w2 ⟨v', rfl, H4⟩
      clear c1 hcp hcd hfp
      have hcd := (H4.take (Take.there _ (Take.there _ (Take.here _ _)))).cells
      have H5 := H4.take (Take.there _ (Take.there _ (Take.there _ (Take.there _ (Take.here _ _)))))
      have c2 := hmake H5 P (by rw [HM.out]; omega) (by rw [HM.out]; omega)
      rw [HF.out] at c2
      unfold PlaceS.val at c2
      go_wp2_with fail
      refine c2.mono ?_
      rintro e w3 ⟨rfl, H6⟩
      clear c2
      go_wp2
      go_ret2
      exact ⟨v', _, _, by simp, HAG.out, by simp, by rw [List.length_append]; exact H6.swap.dropAt2.dropAt2.dropAt2⟩
    · have HF := Lib.hid (TabS.make_bad (t := t) hp)
      have c1 := makeR_bad H3 v P hp
      clear hp
      unfold PlaceS.val at c1
      go_wp2_with fail
      refine c1.mono ?_
      rintro e w2 ⟨rfl, H4⟩
      clear c1 hcp hcd hfp
      have hcd := H4.swap.cells
      have H5 := H4.take (Take.there _ (Take.there _ (Take.there _ (Take.here _ _))))
      have c2 := hmake H5 P (by rw [HM.out]; omega) (by rw [HM.out]; omega)
      rw [HF.out] at c2
      unfold PlaceS.val at c2
      go_wp2_with fail
      refine c2.mono ?_
      rintro e w3 ⟨rfl, H6⟩
      clear c2
      go_wp2
      go_ret2
      exact ⟨v, _, _, by simp, HA.out, by omega, (H6.dropAt2.swap.drop).swap⟩

set_option maxRecDepth 100000 in
set_option maxHeartbeats 1000000 in
theorem step_drop (A : Agree t x) (hl : x.length ≤ 60) (K h : Int) (P : PlaceS) (g2 : (K == 2) = true) (g0 : (K == 0) = false) (g1 : (K == 1) = false) (H : Holds e w (row v 113 4 x.length (hCells x) :: pts b t.obj :: R)) :
    Calls Try.prog 43 #[.pointer (some ⟨b, 0, none⟩), v, .agg #[.int .i64 K, .int .i64 h, .int .i64 P.page, .int .i64 P.obj, .int .i64 P.len]] w (StepPost e b x.length R) := by
  have HA := Lib.hid A
  have HM := Lib.hid A.many
  clear A
  go_enter Try.func43, Try.ntmps43
  have H1 := (H.alloc (deedObj K h P))
  have H2 := (H1.alloc (pObj P))
  have hrA : ∀ w', Holds e w' (row v 113 4 x.length (hCells x) :: pts b t.obj :: R) → Reads w' v 4 x.length (hCells x) := fun w' h => row.reads h
  have HRA := Lib.hid hrA
  clear hrA
  unfold deedObj at H1
  unfold deedObj pObj at H2
  go_wp2_with fail
  have cat := retQ (atR_any x v h (by omega) (HRA.out _ H2.drop.drop)) H2
  generalize hbp : (w.alloc (.cells #[.int .i64 K, .int .i64 h, .int .i64 P.page, .int .i64 P.obj, .int .i64 P.len] 39 (0, 0))).heap.size = bp at *
  have hbp' : w.heap.size + 1 = bp := by rw [← hbp]; simp
  rw [hbp']
  generalize w.heap.size = bd at *
  clear hbp hbp' H1 H
  refine cat.mono ?_
  clear cat
  generalize hat : atR x h = i at *
  have HAT := Lib.hid hat
  clear hat
  rintro e w1 ⟨rfl, H3⟩
  clear H2
  have hcp := H3.cells
  have hcd := H3.swap.cells
  have hfp := H3.frozen
  rcases atR_cases x h with ⟨e1, _⟩ | ⟨k, hk, e1, e2⟩
  · have HD := Lib.hid (show t.drop h = ((PlaceS.zero, false), t) by unfold TabS.drop; rw [if_neg (by rw [HA.out.inb_no e1]; exact Bool.false_ne_true)])
    have c1 := dropR_no H3 x v (by omega) h e1 (fun w' h => row.reads h.drop.drop)
    clear e1
    unfold PlaceS.zero PlaceS.val at c1
    go_wp2_with fail
    refine c1.mono ?_
    rintro e w2 ⟨rfl, H4⟩
    clear c1 hcp hcd hfp
    have H4a := H4.alloc (.cells #[.int .i64 0, .int .i64 0, .int .i64 0] 31)
    have hcd := H4.swap.cells
    have hlt := H4.swap.lt
    go_wp2_with fail
    have H5 := H4a.take (Take.there _ (Take.there _ (Take.there _ (Take.there _ (Take.here _ _)))))
    have c2 := hdrop H5 h (by rw [HM.out]; omega) (by rw [HM.out]; omega)
    rw [HD.out] at c2
    unfold PlaceS.zero PlaceS.val at c2
    generalize w2.heap.size = bq at *
    refine c2.mono ?_
    rintro e w3 ⟨rfl, H6⟩
    clear c2 H5 H4a H4 hcd hlt
    have hcq := H6.swap.cells
    have hlq := H6.swap.lt
    go_wp2
    go_ret2
    exact ⟨v, _, _, by simp, HA.out, by omega, (H6.alloc _).drop.drop2.drop2.drop2.swap⟩
  · obtain ⟨i1, i2⟩ := HA.out.inb_yes e1 hk e2
    have HD := Lib.hid (show t.drop h = (((x.getD k (0, PlaceS.zero)).2, true), { t.put h.toNat PlaceS.zero with many := t.many - 1 }) by unfold TabS.drop; rw [if_pos i1, i2])
    have HAG := Lib.hid (HA.out.drop hk e2)
    have c1 := dropR_yes H3 x v (by omega) h k hk e1 (fun w' h => row.reads h.drop.drop)
    clear e1 e2 i1 i2
    generalize (x.getD k (0, PlaceS.zero)).2 = q at *
    unfold PlaceS.val at c1
    go_wp2_with fail
    refine c1.mono ?_
    rintro e w2 ⟨v', rfl, H4⟩
    clear c1 hcp hcd hfp
    have H4a := H4.alloc (.cells #[.int .i64 q.page, .int .i64 q.obj, .int .i64 q.len] 31)
    have hcd := (H4.take (Take.there _ (Take.there _ (Take.here _ _)))).cells
    have hlt := (H4.take (Take.there _ (Take.there _ (Take.here _ _)))).lt
    go_wp2_with fail
    have H5 := H4a.take (Take.there _ (Take.there _ (Take.there _ (Take.there _ (Take.there _ (Take.here _ _))))))
    have c2 := hdrop H5 h (by rw [HM.out]; omega) (by rw [HM.out]; omega)
    rw [HD.out] at c2
    unfold PlaceS.val at c2
    generalize w2.heap.size = bq at *
    refine c2.mono ?_
    rintro e w3 ⟨rfl, H6⟩
    clear c2 H5 H4a H4 hcd hlt
    have hcq := H6.swap.cells
    have hlq := H6.swap.lt
    go_wp2
    go_ret2
    exact ⟨v', _, _, by simp, HAG.out, by simp; omega, by
      have hl2 : (x.take k ++ x.drop (k + 1)).length = x.length - 1 := by simp; omega
      rw [hl2]
      exact (H6.alloc _).drop.drop2.swap.dropAt2.dropAt2.dropAt2⟩

set_option maxRecDepth 100000 in
set_option maxHeartbeats 1000000 in
theorem step_get (A : Agree t x) (hl : x.length ≤ 60) (K h : Int) (P : PlaceS) (g3 : (K == 3) = false) (g2 : (K == 2) = false) (g0 : (K == 0) = false) (g1 : (K == 1) = false) (H : Holds e w (row v 113 4 x.length (hCells x) :: pts b t.obj :: R)) :
    Calls Try.prog 43 #[.pointer (some ⟨b, 0, none⟩), v, .agg #[.int .i64 K, .int .i64 h, .int .i64 P.page, .int .i64 P.obj, .int .i64 P.len]] w (StepPost e b x.length R) := by
  have HA := Lib.hid A
  clear A
  go_enter Try.func43, Try.ntmps43
  have H1 := (H.alloc (deedObj K h P))
  have H2 := (H1.alloc (pObj P))
  have hrA : ∀ w', Holds e w' (row v 113 4 x.length (hCells x) :: pts b t.obj :: R) → Reads w' v 4 x.length (hCells x) := fun w' h => row.reads h
  have HRA := Lib.hid hrA
  clear hrA
  unfold deedObj at H1
  unfold deedObj pObj at H2
  go_wp2_with fail
  have cat := retQ (atR_any x v h (by omega) (HRA.out _ H2.drop.drop)) H2
  generalize hbp : (w.alloc (.cells #[.int .i64 K, .int .i64 h, .int .i64 P.page, .int .i64 P.obj, .int .i64 P.len] 39 (0, 0))).heap.size = bp at *
  have hbp' : w.heap.size + 1 = bp := by rw [← hbp]; simp
  rw [hbp']
  generalize w.heap.size = bd at *
  clear hbp hbp' H1 H
  refine cat.mono ?_
  clear cat
  generalize hat : atR x h = i at *
  have HAT := Lib.hid hat
  clear hat
  rintro e w1 ⟨rfl, H3⟩
  clear H2
  have hcp := H3.cells
  have hcd := H3.swap.cells
  have hfp := H3.frozen
  have H5 := H3.take (Take.there _ (Take.there _ (Take.there _ (Take.here _ _))))
  rcases atR_cases x h with ⟨e1, _⟩ | ⟨k, hk, e1, e2⟩
  · have c2 := hget H5 h
    rw [HA.out.get_no e1] at c2
    unfold PlaceS.zero PlaceS.val at c2
    have hi : i = -1 := HAT.out.symm.trans e1
    subst hi
    clear e1
    go_wp2_with fail
    refine c2.mono ?_
    rintro e w3 ⟨rfl, H6⟩
    clear c2 hcp hcd hfp
    have H7 := H6.alloc (.cells #[.int .i64 0, .int .i64 0, .int .i64 0] 24)
    go_wp2
    go_quiet (fail)
    go_wp2
    go_ret2
    exact ⟨v, _, _, by simp, HA.out, by omega, H7.drop.drop2.drop2.swap.drewN _⟩
  · have c2 := hget H5 h
    rw [HA.out.get_yes e1 hk e2] at c2
    have hi : i = k := HAT.out.symm.trans e1
    subst hi
    clear e1 e2
    unfold PlaceS.val at c2
    go_wp2_with fail
    refine c2.mono ?_
    rintro e w3 ⟨rfl, H6⟩
    clear c2 hcp hcd hfp
    have hrd := row.reads (H6.take (Take.there _ (Take.there _ (Take.there _ (Take.here _ _)))))
    obtain ⟨ad, c, rfl⟩ := hrd.shape
    obtain ⟨g, o, rfl, _⟩ := hrd.at (by omega)
    obtain ⟨_, p1, p2, p3⟩ := reads_h hrd hk
    have hgl := World.block_lt_of_cell? _ _ p1
    generalize (x.getD k (0, PlaceS.zero)).2 = q at *
    have H7 := H6.alloc (.cells #[.int .i64 q.page, .int .i64 q.obj, .int .i64 q.len] 24)
    clear hrd
    go_wp2
    go_quiet (fail)
    go_wp2
    go_ret2
    exact ⟨.slice (some ⟨g, o, none⟩) x.length c, _, _, by simp, HA.out, by omega, H7.drop.drop2.drop2.swap.drewN _⟩
end

end Go.Proofs.Ytfjdgjdkpmljkaa
