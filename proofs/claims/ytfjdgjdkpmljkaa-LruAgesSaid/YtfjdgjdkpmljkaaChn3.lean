/-
  The chain: Drop, Push.
-/
import Derived.Test.YtfjdgjdkpmljkaaChn2
import Derived.Deep.QuietTactic
import Derived.BigQuiet
namespace Go.Proofs.Ytfjdgjdkpmljkaa
open Go.RowKit

@[elab_as_elim] theorem gen_world {motive : World → Prop} {e : Env} {w : World} {A : List HP} (H : Holds e w A) (h : ∀ w', Holds e w' A → motive w') : motive w := h w H

theorem ints_set (l : List Int) (i : Nat) (v : Int) : (ints l).toArray.setIfInBounds i (.int .i64 v) = (ints (l.set i v)).toArray := by
  simp [ints, List.map_set]
theorem boolVs_set (l : List Bool) (i : Nat) (v : Bool) : (boolVs l).toArray.setIfInBounds i (.bool v) = (boolVs (l.set i v)).toArray := by
  simp [boolVs, List.map_set]

section
variable {e : Env} {w : World} {R : List HP} {b g1 g2 g3 : Nat} {c : ChainS} {X X2 X3 : HP}
theorem st1 {l : List Int} (H : Holds e w (X :: pts g1 (intsObj l) :: R)) (i : Nat) (v : Int) : Holds e (w.setCell ⟨g1, i, none⟩ (.int .i64 v)) (X :: pts g1 (intsObj (l.set i v)) :: R) := by
  have := (H.swap).set i (.int .i64 v)
  rw [ints_set] at this
  exact this.swap
theorem st2 {l : List Int} (H : Holds e w (X :: X2 :: pts g1 (intsObj l) :: R)) (i : Nat) (v : Int) : Holds e (w.setCell ⟨g1, i, none⟩ (.int .i64 v)) (X :: X2 :: pts g1 (intsObj (l.set i v)) :: R) := by
  have := (H.take (Take.there _ (Take.there _ (Take.here _ _)))).set i (.int .i64 v)
  rw [ints_set] at this
  exact this.swap.imp fun _ => Sat.cons fun _ => (Take.there _ (Take.here _ _)) _
theorem st3 {l : List Bool} (H : Holds e w (X :: X2 :: X3 :: pts g1 (boolsObj l) :: R)) (i : Nat) (v : Bool) : Holds e (w.setCell ⟨g1, i, none⟩ (.bool v)) (X :: X2 :: X3 :: pts g1 (boolsObj (l.set i v)) :: R) := by
  have := (H.take (Take.there _ (Take.there _ (Take.there _ (Take.here _ _))))).set i (.bool v)
  rw [boolVs_set] at this
  exact this.swap.imp fun _ => Sat.cons fun _ h => Sat.cons (fun _ => (Take.there _ (Take.here _ _)) _) ((Take.there _ (Take.here _ _)) _ h)

set_option maxRecDepth 100000 in
set_option maxHeartbeats 1000000 in
theorem chDrop_no (H : Holds e w (pts b (chObj c g1 g2 g3) :: pts g1 (intsObj c.nx) :: pts g2 (intsObj c.la) :: pts g3 (boolsObj c.th) :: R)) {l : List Nat} (hC : Chained c l) (x : Int) (hx : ¬ (0 ≤ x ∧ x.toNat ∈ l)) :
    Calls Try.prog 35 #[.pointer (some ⟨b, 0, none⟩), .int .i64 x] w (Quiet w (.bool false)) := by
  have ch := chHas_any H hC x
  rw [decide_eq_false hx] at ch
  clear H hC hx
  go_enter Try.func35, Try.ntmps35
  go_wp2_with fail
  refine ch.mono ?_
  rintro e w1 ⟨rfl, n1, rfl⟩
  go_wp2
  go_ret
  exact ⟨rfl, _, rfl⟩

theorem hth_cell (H : Holds e w (X :: X2 :: X3 :: pts g3 (boolsObj c.th) :: R)) {x : Nat} (hx : x < c.th.length) : w.cell? ⟨g3, x, none⟩ = some (.bool (c.th.getD x false)) := by
  have h := H.take (Take.there _ (Take.there _ (Take.there _ (Take.here _ _))))
  unfold boolsObj at h
  rw [h.cells, boolVs_get hx]

set_option maxRecDepth 100000 in
set_option maxHeartbeats 2000000 in
theorem chDrop_yes (H : Holds e w (pts b (chObj c g1 g2 g3) :: pts g1 (intsObj c.nx) :: pts g2 (intsObj c.la) :: pts g3 (boolsObj c.th) :: R)) {A B : List Nat} {x : Nat} (hC : Chained c (A ++ x :: B)) (_hl : c.nx.length ≤ 4096) (hm : (A ++ x :: B).length ≤ 4096) :
    Calls Try.prog 35 #[.pointer (some ⟨b, 0, none⟩), .int .i64 x] w (Ret e (.bool true) (pts b (chObj (c.drop x) g1 g2 g3) :: pts g1 (intsObj (c.drop x).nx) :: pts g2 (intsObj (c.drop x).la) :: pts g3 (boolsObj (c.drop x).th) :: R)) := by
  have ch := retQ (chHas_any H hC x) H
  rw [decide_eq_true (show 0 ≤ (x : Int) ∧ (x : Int).toNat ∈ A ++ x :: B from ⟨by omega, by simp⟩)] at ch
  have hx : x < c.nx.length := hC.lt x (by simp)
  have hla := hC.sla
  have hth := hC.sth
  have hm1 : 1 ≤ c.many := by have := hC.many; simp at this; omega
  have hm2 : c.many ≤ 4096 := by have := hC.many; omega
  have hnew : c.nx.getD x 0 = -1 ∨ ∃ y : Nat, c.nx.getD x 0 = y ∧ y < c.nx.length := by
    rw [hC.nx A x B rfl]
    rcases hdI_cases B with ⟨_, e⟩ | ⟨y, m, e1, e⟩
    · exact .inl e
    · exact .inr ⟨y, e, hC.lt y (by simp [e1])⟩
  have hold : c.la.getD x 0 = -1 ∨ ∃ y : Nat, c.la.getD x 0 = y ∧ y < c.nx.length := by
    rw [hC.la A x B rfl]
    rcases tlI_cases A with ⟨_, e⟩ | ⟨y, m, e1, e⟩
    · exact .inl e
    · exact .inr ⟨y, e, hC.lt y (by simp [e1])⟩
  clear hm
  rcases hnew with hnew | ⟨y, hnew, hy⟩
  all_goals rcases hold with hold | ⟨z, hold, hz⟩
  · go_enter Try.func35, Try.ntmps35
    go_wp2_with fail
    refine ch.mono ?_
    rintro e w1 ⟨rfl, H1⟩
    clear ch H
    have hne1 := H1.ne
    have hne2 := (H1.take (Take.there _ (Take.here _ _))).drop.ne
    have q1 : w1.cell? ⟨g1, x, none⟩ = some (.int .i64 (c.nx.getD x 0)) := by have h := H1.swap; unfold intsObj at h; rw [h.cells, intsA_get hx]
    have q2 : w1.cell? ⟨g2, x, none⟩ = some (.int .i64 (c.la.getD x 0)) := by have h := H1.take (Take.there _ (Take.there _ (Take.here _ _))); unfold intsObj at h; rw [h.cells, intsA_get (by omega)]
    rw [hnew] at q1
    rw [hold] at q2
    have hcb := H1.head (Y := pts b (chObj c g1 g2 g3)) (fun _ h => h)
    unfold chObj at hcb
    have hc := hcb.cells
    have HN := Lib.hid hnew
    have HO := Lib.hid hold
    clear hcb hC hnew hold
    go_wp2
    go_quiet (fail)
    refine gen_world (H1.drewN nq) ?_
    clear hc q1 q2 H1
    intro w2 H2
    have hne3 := (H2.take (Take.there _ (Take.there _ (Take.there _ (Take.here _ _))))).ne
    have hne4 := H2.drop.ne
    have hne5 := (H2.drop.take (Take.there _ (Take.there _ (Take.here _ _)))).ne
    have hne6 := H2.drop.drop.ne
    have f1 : ∀ i, w2.frozen? ⟨g1, i, none⟩ = false := by have h := H2.swap; unfold intsObj at h; exact h.frozen
    have f2 : ∀ i, w2.frozen? ⟨g2, i, none⟩ = false := by have h := H2.take (Take.there _ (Take.there _ (Take.here _ _))); unfold intsObj at h; exact h.frozen
    have f3 : ∀ i, w2.frozen? ⟨g3, i, none⟩ = false := by have h := H2.take (Take.there _ (Take.there _ (Take.there _ (Take.here _ _)))); unfold boolsObj at h; exact h.frozen
    have u1 : ∀ i, i < c.nx.length → w2.cell? ⟨g1, i, none⟩ = some (.int .i64 (c.nx.getD i 0)) := by intro i hi; have h := H2.swap; unfold intsObj at h; rw [h.cells, intsA_get hi]
    have u2 : ∀ i, i < c.nx.length → w2.cell? ⟨g2, i, none⟩ = some (.int .i64 (c.la.getD i 0)) := by intro i hi; have h := H2.take (Take.there _ (Take.there _ (Take.here _ _))); unfold intsObj at h; rw [h.cells, intsA_get (by omega)]
    have u3 := hth_cell H2 (by omega : x < c.th.length)
    unfold chObj at H2
    have hc := H2.cells
    have hf := H2.frozen
    have HF := (st3 ((H2.set 4 (.int .i64 (-1))).set 3 (.int .i64 (-1))) x false).set 5 (.int .i64 (c.many - 1))
    have ed : c.drop x = ⟨if (-1 : Int) = -1 then c.nx else c.nx.set ((-1 : Int)).toNat (-1 : Int), if (-1 : Int) = -1 then c.la else c.la.set ((-1 : Int)).toNat (-1 : Int), c.th.set x false, if (-1 : Int) = -1 then (-1 : Int) else c.old, if (-1 : Int) = -1 then (-1 : Int) else c.young, c.many - 1⟩ := by simp only [ChainS.drop, HN.out, HO.out]
    have HD := Lib.hid ed
    clear ed H2 HN HO
    go_wp2
    go_ret
    refine ⟨rfl, ?_⟩
    rw [HD.out]
    skip
    exact HF
  · go_enter Try.func35, Try.ntmps35
    go_wp2_with fail
    refine ch.mono ?_
    rintro e w1 ⟨rfl, H1⟩
    clear ch H
    have hne1 := H1.ne
    have hne2 := (H1.take (Take.there _ (Take.here _ _))).drop.ne
    have q1 : w1.cell? ⟨g1, x, none⟩ = some (.int .i64 (c.nx.getD x 0)) := by have h := H1.swap; unfold intsObj at h; rw [h.cells, intsA_get hx]
    have q2 : w1.cell? ⟨g2, x, none⟩ = some (.int .i64 (c.la.getD x 0)) := by have h := H1.take (Take.there _ (Take.there _ (Take.here _ _))); unfold intsObj at h; rw [h.cells, intsA_get (by omega)]
    rw [hnew] at q1
    rw [hold] at q2
    have hcb := H1.head (Y := pts b (chObj c g1 g2 g3)) (fun _ h => h)
    unfold chObj at hcb
    have hc := hcb.cells
    have HN := Lib.hid hnew
    have HO := Lib.hid hold
    clear hcb hC hnew hold
    go_wp2
    go_quiet (fail)
    refine gen_world (H1.drewN nq) ?_
    clear hc q1 q2 H1
    intro w2 H2
    have hne3 := (H2.take (Take.there _ (Take.there _ (Take.there _ (Take.here _ _))))).ne
    have hne4 := H2.drop.ne
    have hne5 := (H2.drop.take (Take.there _ (Take.there _ (Take.here _ _)))).ne
    have hne6 := H2.drop.drop.ne
    have f1 : ∀ i, w2.frozen? ⟨g1, i, none⟩ = false := by have h := H2.swap; unfold intsObj at h; exact h.frozen
    have f2 : ∀ i, w2.frozen? ⟨g2, i, none⟩ = false := by have h := H2.take (Take.there _ (Take.there _ (Take.here _ _))); unfold intsObj at h; exact h.frozen
    have f3 : ∀ i, w2.frozen? ⟨g3, i, none⟩ = false := by have h := H2.take (Take.there _ (Take.there _ (Take.there _ (Take.here _ _)))); unfold boolsObj at h; exact h.frozen
    have u1 : ∀ i, i < c.nx.length → w2.cell? ⟨g1, i, none⟩ = some (.int .i64 (c.nx.getD i 0)) := by intro i hi; have h := H2.swap; unfold intsObj at h; rw [h.cells, intsA_get hi]
    have u2 : ∀ i, i < c.nx.length → w2.cell? ⟨g2, i, none⟩ = some (.int .i64 (c.la.getD i 0)) := by intro i hi; have h := H2.take (Take.there _ (Take.there _ (Take.here _ _))); unfold intsObj at h; rw [h.cells, intsA_get (by omega)]
    have u3 := hth_cell H2 (by omega : x < c.th.length)
    unfold chObj at H2
    have hc := H2.cells
    have hf := H2.frozen
    have HF := (st3 (st1 (H2.set 4 (.int .i64 z)) z (-1)) x false).set 5 (.int .i64 (c.many - 1))
    have ed : c.drop x = ⟨if (z : Int) = -1 then c.nx else c.nx.set ((z : Int)).toNat (-1 : Int), if (-1 : Int) = -1 then c.la else c.la.set ((-1 : Int)).toNat (z : Int), c.th.set x false, if (z : Int) = -1 then (-1 : Int) else c.old, if (-1 : Int) = -1 then (z : Int) else c.young, c.many - 1⟩ := by simp only [ChainS.drop, HN.out, HO.out]
    have HD := Lib.hid ed
    clear ed H2 HN HO
    go_wp2
    go_ret
    refine ⟨rfl, ?_⟩
    rw [HD.out]
    (unfold chObj; simp only [if_neg (show ¬ ((z : Int) = -1) by omega), Int.toNat_natCast, List.length_set])
    exact HF
  · go_enter Try.func35, Try.ntmps35
    go_wp2_with fail
    refine ch.mono ?_
    rintro e w1 ⟨rfl, H1⟩
    clear ch H
    have hne1 := H1.ne
    have hne2 := (H1.take (Take.there _ (Take.here _ _))).drop.ne
    have q1 : w1.cell? ⟨g1, x, none⟩ = some (.int .i64 (c.nx.getD x 0)) := by have h := H1.swap; unfold intsObj at h; rw [h.cells, intsA_get hx]
    have q2 : w1.cell? ⟨g2, x, none⟩ = some (.int .i64 (c.la.getD x 0)) := by have h := H1.take (Take.there _ (Take.there _ (Take.here _ _))); unfold intsObj at h; rw [h.cells, intsA_get (by omega)]
    rw [hnew] at q1
    rw [hold] at q2
    have hcb := H1.head (Y := pts b (chObj c g1 g2 g3)) (fun _ h => h)
    unfold chObj at hcb
    have hc := hcb.cells
    have HN := Lib.hid hnew
    have HO := Lib.hid hold
    clear hcb hC hnew hold
    go_wp2
    go_quiet (fail)
    refine gen_world (H1.drewN nq) ?_
    clear hc q1 q2 H1
    intro w2 H2
    have hne3 := (H2.take (Take.there _ (Take.there _ (Take.there _ (Take.here _ _))))).ne
    have hne4 := H2.drop.ne
    have hne5 := (H2.drop.take (Take.there _ (Take.there _ (Take.here _ _)))).ne
    have hne6 := H2.drop.drop.ne
    have f1 : ∀ i, w2.frozen? ⟨g1, i, none⟩ = false := by have h := H2.swap; unfold intsObj at h; exact h.frozen
    have f2 : ∀ i, w2.frozen? ⟨g2, i, none⟩ = false := by have h := H2.take (Take.there _ (Take.there _ (Take.here _ _))); unfold intsObj at h; exact h.frozen
    have f3 : ∀ i, w2.frozen? ⟨g3, i, none⟩ = false := by have h := H2.take (Take.there _ (Take.there _ (Take.there _ (Take.here _ _)))); unfold boolsObj at h; exact h.frozen
    have u1 : ∀ i, i < c.nx.length → w2.cell? ⟨g1, i, none⟩ = some (.int .i64 (c.nx.getD i 0)) := by intro i hi; have h := H2.swap; unfold intsObj at h; rw [h.cells, intsA_get hi]
    have u2 : ∀ i, i < c.nx.length → w2.cell? ⟨g2, i, none⟩ = some (.int .i64 (c.la.getD i 0)) := by intro i hi; have h := H2.take (Take.there _ (Take.there _ (Take.here _ _))); unfold intsObj at h; rw [h.cells, intsA_get (by omega)]
    have u3 := hth_cell H2 (by omega : x < c.th.length)
    unfold chObj at H2
    have hc := H2.cells
    have hf := H2.frozen
    have HF := (st3 ((st2 H2 y (-1)).set 3 (.int .i64 y)) x false).set 5 (.int .i64 (c.many - 1))
    have ed : c.drop x = ⟨if (-1 : Int) = -1 then c.nx else c.nx.set ((-1 : Int)).toNat (y : Int), if (y : Int) = -1 then c.la else c.la.set ((y : Int)).toNat (-1 : Int), c.th.set x false, if (-1 : Int) = -1 then (y : Int) else c.old, if (y : Int) = -1 then (-1 : Int) else c.young, c.many - 1⟩ := by simp only [ChainS.drop, HN.out, HO.out]
    have HD := Lib.hid ed
    clear ed H2 HN HO
    go_wp2
    go_ret
    refine ⟨rfl, ?_⟩
    rw [HD.out]
    skip
    exact HF
  · go_enter Try.func35, Try.ntmps35
    go_wp2_with fail
    refine ch.mono ?_
    rintro e w1 ⟨rfl, H1⟩
    clear ch H
    have hne1 := H1.ne
    have hne2 := (H1.take (Take.there _ (Take.here _ _))).drop.ne
    have q1 : w1.cell? ⟨g1, x, none⟩ = some (.int .i64 (c.nx.getD x 0)) := by have h := H1.swap; unfold intsObj at h; rw [h.cells, intsA_get hx]
    have q2 : w1.cell? ⟨g2, x, none⟩ = some (.int .i64 (c.la.getD x 0)) := by have h := H1.take (Take.there _ (Take.there _ (Take.here _ _))); unfold intsObj at h; rw [h.cells, intsA_get (by omega)]
    rw [hnew] at q1
    rw [hold] at q2
    have hcb := H1.head (Y := pts b (chObj c g1 g2 g3)) (fun _ h => h)
    unfold chObj at hcb
    have hc := hcb.cells
    have HN := Lib.hid hnew
    have HO := Lib.hid hold
    clear hcb hC hnew hold
    go_wp2
    go_quiet (fail)
    refine gen_world (H1.drewN nq) ?_
    clear hc q1 q2 H1
    intro w2 H2
    have hne3 := (H2.take (Take.there _ (Take.there _ (Take.there _ (Take.here _ _))))).ne
    have hne4 := H2.drop.ne
    have hne5 := (H2.drop.take (Take.there _ (Take.there _ (Take.here _ _)))).ne
    have hne6 := H2.drop.drop.ne
    have f1 : ∀ i, w2.frozen? ⟨g1, i, none⟩ = false := by have h := H2.swap; unfold intsObj at h; exact h.frozen
    have f2 : ∀ i, w2.frozen? ⟨g2, i, none⟩ = false := by have h := H2.take (Take.there _ (Take.there _ (Take.here _ _))); unfold intsObj at h; exact h.frozen
    have f3 : ∀ i, w2.frozen? ⟨g3, i, none⟩ = false := by have h := H2.take (Take.there _ (Take.there _ (Take.there _ (Take.here _ _)))); unfold boolsObj at h; exact h.frozen
    have u1 : ∀ i, i < c.nx.length → w2.cell? ⟨g1, i, none⟩ = some (.int .i64 (c.nx.getD i 0)) := by intro i hi; have h := H2.swap; unfold intsObj at h; rw [h.cells, intsA_get hi]
    have u2 : ∀ i, i < c.nx.length → w2.cell? ⟨g2, i, none⟩ = some (.int .i64 (c.la.getD i 0)) := by intro i hi; have h := H2.take (Take.there _ (Take.there _ (Take.here _ _))); unfold intsObj at h; rw [h.cells, intsA_get (by omega)]
    have u3 := hth_cell H2 (by omega : x < c.th.length)
    unfold chObj at H2
    have hc := H2.cells
    have hf := H2.frozen
    have HF := (st3 (st1 (st2 H2 y z) z y) x false).set 5 (.int .i64 (c.many - 1))
    have ed : c.drop x = ⟨if (z : Int) = -1 then c.nx else c.nx.set ((z : Int)).toNat (y : Int), if (y : Int) = -1 then c.la else c.la.set ((y : Int)).toNat (z : Int), c.th.set x false, if (z : Int) = -1 then (y : Int) else c.old, if (y : Int) = -1 then (z : Int) else c.young, c.many - 1⟩ := by simp only [ChainS.drop, HN.out, HO.out]
    have HD := Lib.hid ed
    clear ed H2 HN HO
    go_wp2
    go_ret
    refine ⟨rfl, ?_⟩
    rw [HD.out]
    (unfold chObj; simp only [if_neg (show ¬ ((z : Int) = -1) by omega), Int.toNat_natCast, List.length_set])
    exact HF
end
end Go.Proofs.Ytfjdgjdkpmljkaa
