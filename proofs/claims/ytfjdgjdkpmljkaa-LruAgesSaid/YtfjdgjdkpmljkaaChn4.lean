/-
  The chain: Push.
-/
import Derived.Test.YtfjdgjdkpmljkaaChn3
import Derived.BigRegion
namespace Go.Proofs.Ytfjdgjdkpmljkaa
open Go.RowKit

section
variable {e : Env} {w : World} {R : List HP} {b g1 g2 g3 : Nat} {c : ChainS}
set_option maxRecDepth 100000 in
set_option maxHeartbeats 1000000 in
theorem chPush_no (H : Holds e w (pts b (chObj c g1 g2 g3) :: R)) (x : Int) (h : x < 0 ∨ (c.nx.length : Int) ≤ x) :
    Calls Try.prog 33 #[.pointer (some ⟨b, 0, none⟩), .int .i64 x] w (Quiet w (.bool false)) := by
  have cm := chMay_no H x h
  clear H h
  go_enter Try.func33, Try.ntmps33
  go_wp2_with fail
  refine cm.mono ?_
  rintro e w1 ⟨rfl, n1, rfl⟩
  go_wp2
  go_ret
  exact ⟨rfl, _, rfl⟩

set_option maxRecDepth 100000 in
set_option maxHeartbeats 2000000 in
theorem chPush_core {c0 : ChainS} (b0 : Bool) (H : Holds e w (pts b (chObj c0 g1 g2 g3) :: pts g1 (intsObj c0.nx) :: pts g2 (intsObj c0.la) :: pts g3 (boolsObj c0.th) :: R)) {l : List Nat} {x : Nat}
    (cd : ∀ w', Holds e w' (pts b (chObj c0 g1 g2 g3) :: pts g1 (intsObj c0.nx) :: pts g2 (intsObj c0.la) :: pts g3 (boolsObj c0.th) :: R) → Calls Try.prog 35 #[.pointer (some ⟨b, 0, none⟩), .int .i64 x] w' (Ret e (.bool b0) (pts b (chObj c g1 g2 g3) :: pts g1 (intsObj c.nx) :: pts g2 (intsObj c.la) :: pts g3 (boolsObj c.th) :: R)))
    (hC : Chained c l) (hx0 : x < c0.nx.length) (hx : x < c.nx.length) (hm : l.length ≤ 4096) :
    Calls Try.prog 33 #[.pointer (some ⟨b, 0, none⟩), .int .i64 x] w (Ret e (.bool true) (pts b (chObj (c.put x) g1 g2 g3) :: pts g1 (intsObj (c.put x).nx) :: pts g2 (intsObj (c.put x).la) :: pts g3 (boolsObj (c.put x).th) :: R)) := by
  have cm := retQ (chMay_yes H x hx0) H
  have HCD := Lib.hid cd
  clear cd hx0
  have hla := hC.sla
  have hth := hC.sth
  have hm1 : 0 ≤ c.many := by have := hC.many; omega
  have hm2 : c.many ≤ 4096 := by have := hC.many; omega
  go_enter Try.func33, Try.ntmps33
  go_wp2_with fail
  refine cm.mono ?_
  rintro e w1 ⟨rfl, H1⟩
  clear cm H
  go_wp2_with fail
  refine (HCD.out _ H1).mono ?_
  rintro e w2 ⟨rfl, H2⟩
  clear H1 HCD
  have hne1 := H2.ne
  have hne2 := (H2.take (Take.there _ (Take.here _ _))).drop.ne
  have hne3 := (H2.take (Take.there _ (Take.there _ (Take.there _ (Take.here _ _))))).ne
  have hne4 := H2.drop.ne
  have hne5 := (H2.drop.take (Take.there _ (Take.there _ (Take.here _ _)))).ne
  have hne6 := H2.drop.drop.ne
  have f1 : ∀ i, w2.frozen? ⟨g1, i, none⟩ = false := by have h := H2.swap; unfold intsObj at h; exact h.frozen
  have f2 : ∀ i, w2.frozen? ⟨g2, i, none⟩ = false := by have h := H2.take (Take.there _ (Take.there _ (Take.here _ _))); unfold intsObj at h; exact h.frozen
  have f3 : ∀ i, w2.frozen? ⟨g3, i, none⟩ = false := by have h := H2.take (Take.there _ (Take.there _ (Take.there _ (Take.here _ _)))); unfold boolsObj at h; exact h.frozen
  have u1 : w2.cell? ⟨g1, x, none⟩ = some (.int .i64 (c.nx.getD x 0)) := by have h := H2.swap; unfold intsObj at h; rw [h.cells, intsA_get hx]
  have u2 : w2.cell? ⟨g2, x, none⟩ = some (.int .i64 (c.la.getD x 0)) := by have h := H2.take (Take.there _ (Take.there _ (Take.here _ _))); unfold intsObj at h; rw [h.cells, intsA_get (by omega)]
  have u3 := hth_cell H2 (by omega : x < c.th.length)
  have hcb := H2
  unfold chObj at hcb
  have hc := hcb.cells
  have hf := hcb.frozen
  clear hcb
  have HK := Lib.hid hC
  clear hC
  go_wp2_with fail
  go_region
  have HF1 := st2 (st1 (st3 H2 x true) x (-1)) x c.young
  refine gen_world (show Holds e (World.drew _) _ from HF1.drawn _) ?_
  clear HF1 u1 u2 u3 f1 f2 f3 H2 hc hf
  intro w3 H3
  have f1 : ∀ i, w3.frozen? ⟨g1, i, none⟩ = false := by have h := H3.swap; unfold intsObj at h; exact h.frozen
  have hyo : c.young = -1 ∨ ∃ y : Nat, c.young = y ∧ y < c.nx.length := by
    rw [HK.out.young]
    rcases tlI_cases l with ⟨_, e⟩ | ⟨y, m, e1, e⟩
    · exact .inl e
    · exact .inr ⟨y, e, HK.out.lt y (by simp [e1])⟩
  rcases hyo with hyo | ⟨y, hyo, hy⟩
  · have ed : c.put x = ⟨c.nx.set x (-1), c.la.set x c.young, c.th.set x true, x, x, c.many + 1⟩ := by simp only [ChainS.put, hyo, if_true]
    have HD := Lib.hid ed
    unfold chObj at H3
    rw [hyo] at H3
    have hc := H3.cells
    have hf := H3.frozen
    have HF := ((H3.set 3 (.int .i64 x)).set 4 (.int .i64 x)).set 5 (.int .i64 (c.many + 1))
    have HY := Lib.hid hyo
    clear ed H3 hyo
    go_wp2
    go_ret
    refine ⟨rfl, ?_⟩
    rw [HD.out]
    unfold chObj
    simp only [List.length_set]
    rw [HY.out]
    exact HF
  · have ed : c.put x = ⟨(c.nx.set x (-1)).set y x, c.la.set x c.young, c.th.set x true, c.old, x, c.many + 1⟩ := by simp only [ChainS.put, hyo, if_neg (show ¬ ((y : Int) = -1) by omega), Int.toNat_natCast]
    have HD := Lib.hid ed
    have u1 : w3.cell? ⟨g1, y, none⟩ = some (.int .i64 ((c.nx.set x (-1)).getD y 0)) := by have h := H3.swap; unfold intsObj at h; rw [h.cells, intsA_get (by simpa using hy)]
    unfold chObj at H3
    rw [hyo] at H3
    have hc := H3.cells
    have hf := H3.frozen
    have HF := ((st1 H3 y x).set 4 (.int .i64 x)).set 5 (.int .i64 (c.many + 1))
    have HY := Lib.hid hyo
    clear ed H3 hyo
    go_wp2_with fail
    go_region
    go_wp2
    go_ret
    refine ⟨rfl, ?_⟩
    rw [HD.out]
    unfold chObj
    simp only [List.length_set]
    rw [HY.out]
    exact HF.drawn _

theorem chPush_any (H : Holds e w (pts b (chObj c g1 g2 g3) :: pts g1 (intsObj c.nx) :: pts g2 (intsObj c.la) :: pts g3 (boolsObj c.th) :: R)) {l : List Nat} {x : Nat} (hC : Chained c l) (hx : x < c.nx.length) (hl : c.nx.length ≤ 4096) (hm : l.length ≤ 4096) :
    Calls Try.prog 33 #[.pointer (some ⟨b, 0, none⟩), .int .i64 x] w (fun en w' => ∃ c', Chained c' (l.erase x ++ [x]) ∧ c'.nx.length = c.nx.length ∧ Ret e (.bool true) (pts b (chObj c' g1 g2 g3) :: pts g1 (intsObj c'.nx) :: pts g2 (intsObj c'.la) :: pts g3 (boolsObj c'.th) :: R) en w') := by
  by_cases hxl : x ∈ l
  · obtain ⟨A, B, rfl⟩ := List.append_of_mem hxl
    have hnd := hC.nodup
    have hxA : x ∉ A := by
      intro h
      rw [List.nodup_append] at hnd
      exact hnd.2.2 x h x (by simp) rfl
    have hxB : x ∉ B := by
      intro h
      rw [List.nodup_append] at hnd
      exact (List.nodup_cons.1 hnd.2.1).1 h
    have e1 : (A ++ x :: B).erase x = A ++ B := by rw [List.erase_append_right _ hxA, List.erase_cons_head]
    have e2 : (c.drop x).nx.length = c.nx.length := by simp only [ChainS.drop]; split <;> simp
    have hC2 := hC.drop
    refine (chPush_core true H (fun w' h => chDrop_yes h hC hl hm) hC2 hx (by rw [e2]; exact hx) (by simp at hm ⊢; omega)).mono fun en w' h => ⟨_, ?_, ?_, h⟩
    · rw [e1]
      exact hC2.putNew (by rw [e2]; exact hx) (by simp [hxA, hxB])
    · rw [← e2]; simp only [ChainS.put]; split <;> simp
  · refine (chPush_core false H (fun w' h => retQ (chDrop_no h hC x (by simpa using hxl)) h) hC hx hx hm).mono fun en w' h => ⟨_, ?_, ?_, h⟩
    · rw [List.erase_of_not_mem hxl]
      exact hC.putNew hx hxl
    · simp only [ChainS.put]; split <;> simp
end
end Go.Proofs.Ytfjdgjdkpmljkaa
