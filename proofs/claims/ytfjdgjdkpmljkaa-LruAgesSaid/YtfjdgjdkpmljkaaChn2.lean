/-
  The chain in memory; what only reads.
-/
import Derived.Test.YtfjdgjdkpmljkaaChn
namespace Go.Proofs.Ytfjdgjdkpmljkaa
open Go.RowKit

def boolVs (l : List Bool) : List Value := l.map Value.bool
def chObj (c : ChainS) (g1 g2 g3 : Nat) : Obj := .cells #[.slice (some ⟨g1, 0, none⟩) c.nx.length c.nx.length, .slice (some ⟨g2, 0, none⟩) c.nx.length c.nx.length, .slice (some ⟨g3, 0, none⟩) c.nx.length c.nx.length, .int .i64 c.old, .int .i64 c.young, .int .i64 c.many] 106 (0, 0)
def intsObj (l : List Int) : Obj := .cells (ints l).toArray 3 (0, 0)
def boolsObj (l : List Bool) : Obj := .cells (boolVs l).toArray 4 (0, 0)

theorem told_any (w : World) (x : Int) : Calls Try.prog 69 #[.int .i64 x] w (Quiet w (.tuple #[.int .i64 (if x = -1 then 0 else x), .bool (decide (x ≠ -1))])) := by
  by_cases h : x = -1
  · subst h
    go_enter Try.func69, Try.ntmps69
    go_wp2
    go_ret2
    exact ⟨rfl, 0, rfl⟩
  · go_enter Try.func69, Try.ntmps69
    go_wp2
    go_ret2
    exact ⟨by simp, 0, rfl⟩

section
variable {e : Env} {w : World} {R : List HP} {b g1 g2 g3 : Nat} {c : ChainS}

theorem chMay_nil (x : Int) : Calls Try.prog 68 #[.pointer none, .int .i64 x] w (Quiet w (.bool false)) := by
  go_enter Try.func68, Try.ntmps68
  go_wp2
  go_ret
  exact ⟨rfl, 0, rfl⟩
theorem chHas_nil (x : Int) : Calls Try.prog 48 #[.pointer none, .int .i64 x] w (Quiet w (.bool false)) := by
  go_enter Try.func48, Try.ntmps48
  go_wp2_with fail
  refine (chMay_nil x).mono ?_
  rintro e w1 ⟨rfl, n1, rfl⟩
  go_wp2
  go_ret
  exact ⟨rfl, _, rfl⟩
theorem chLen_nil : Calls Try.prog 36 #[.pointer none] w (Quiet w (.int .i64 0)) := by
  go_enter Try.func36, Try.ntmps36
  go_wp2
  go_ret
  exact ⟨rfl, 0, rfl⟩
theorem chLen_ok (H : Holds e w (pts b (chObj c g1 g2 g3) :: R)) : Calls Try.prog 36 #[.pointer (some ⟨b, 0, none⟩)] w (Quiet w (.int .i64 c.many)) := by
  unfold chObj at H
  have hc := H.cells
  go_enter Try.func36, Try.ntmps36
  go_wp2
  go_ret
  exact ⟨rfl, 0, rfl⟩

theorem chMay_no (H : Holds e w (pts b (chObj c g1 g2 g3) :: R)) (x : Int) (h : x < 0 ∨ (c.nx.length : Int) ≤ x) : Calls Try.prog 68 #[.pointer (some ⟨b, 0, none⟩), .int .i64 x] w (Quiet w (.bool false)) := by
  unfold chObj at H
  have hc := H.cells
  clear H
  generalize c.nx.length = n at *
  by_cases h1 : x < 0
  · go_enter Try.func68, Try.ntmps68
    go_wp2
    go_ret
    exact ⟨by simp <;> omega, 0, rfl⟩
  · have h2 : (n : Int) ≤ x := by omega
    have h3 : 0 ≤ x := by omega
    clear h h1
    go_enter Try.func68, Try.ntmps68
    go_wp2
    go_ret
    exact ⟨by simp <;> omega, 0, rfl⟩
theorem chMay_yes (H : Holds e w (pts b (chObj c g1 g2 g3) :: R)) (x : Nat) (h : x < c.nx.length) : Calls Try.prog 68 #[.pointer (some ⟨b, 0, none⟩), .int .i64 x] w (Quiet w (.bool true)) := by
  unfold chObj at H
  have hc := H.cells
  clear H
  generalize c.nx.length = n at *
  go_enter Try.func68, Try.ntmps68
  go_wp2
  go_ret
  exact ⟨by simp <;> omega, 0, rfl⟩
theorem boolVs_get {l : List Bool} {x : Nat} (h : x < l.length) : (boolVs l).toArray[x]? = some (.bool (l.getD x false)) := by
  simp [boolVs, List.getD, List.getElem?_eq_getElem h]
theorem intsA_get {l : List Int} {x : Nat} (h : x < l.length) : (ints l).toArray[x]? = some (.int .i64 (l.getD x 0)) := by
  simp [ints, List.getD, List.getElem?_eq_getElem h]
theorem chHas_no (H : Holds e w (pts b (chObj c g1 g2 g3) :: R)) (x : Int) (h : x < 0 ∨ (c.nx.length : Int) ≤ x) : Calls Try.prog 48 #[.pointer (some ⟨b, 0, none⟩), .int .i64 x] w (Quiet w (.bool false)) := by
  go_enter Try.func48, Try.ntmps48
  go_wp2_with fail
  refine (chMay_no H x h).mono ?_
  rintro e w1 ⟨rfl, n1, rfl⟩
  go_wp2
  go_ret
  exact ⟨rfl, _, rfl⟩
theorem chHas_yes (H : Holds e w (pts b (chObj c g1 g2 g3) :: pts g1 (intsObj c.nx) :: pts g2 (intsObj c.la) :: pts g3 (boolsObj c.th) :: R)) (x : Nat) (h : x < c.nx.length) (ht : c.th.length = c.nx.length) :
    Calls Try.prog 48 #[.pointer (some ⟨b, 0, none⟩), .int .i64 x] w (Quiet w (.bool (c.th.getD x false))) := by
  have cm := chMay_yes H x h
  have H4 := H.take (Take.there _ (Take.there _ (Take.there _ (Take.here _ _))))
  unfold boolsObj at H4
  have hb : w.cell? ⟨g3, x, none⟩ = some (.bool (c.th.getD x false)) := by rw [H4.cells, boolVs_get (by omega)]
  unfold chObj at H
  have hc := H.cells
  clear H H4 ht
  generalize c.th.getD x false = bb at *
  generalize c.nx.length = n at *
  go_enter Try.func48, Try.ntmps48
  go_wp2_with fail
  refine cm.mono ?_
  rintro e w1 ⟨rfl, n1, rfl⟩
  clear cm
  go_wp2
  go_ret
  exact ⟨rfl, _, rfl⟩
theorem chOldest_nil : Calls Try.prog 34 #[.pointer none] w (Quiet w (.tuple #[.int .i64 0, .bool false])) := by
  go_enter Try.func34, Try.ntmps34
  go_wp2
  go_ret2
  exact ⟨rfl, 0, rfl⟩
theorem chOldest_ok (H : Holds e w (pts b (chObj c g1 g2 g3) :: R)) : Calls Try.prog 34 #[.pointer (some ⟨b, 0, none⟩)] w (Quiet w (.tuple #[.int .i64 (if c.old = -1 then 0 else c.old), .bool (decide (c.old ≠ -1))])) := by
  unfold chObj at H
  have hc := H.cells
  have ct := told_any w c.old
  generalize (if c.old = -1 then 0 else c.old) = o1 at *
  generalize decide (c.old ≠ -1) = o2 at *
  generalize c.old = o at *
  go_enter Try.func34, Try.ntmps34
  go_wp2_with fail
  refine ct.mono ?_
  rintro e w1 ⟨rfl, n1, rfl⟩
  go_wp2
  go_ret2
  exact ⟨rfl, _, rfl⟩

theorem chHas_any (H : Holds e w (pts b (chObj c g1 g2 g3) :: pts g1 (intsObj c.nx) :: pts g2 (intsObj c.la) :: pts g3 (boolsObj c.th) :: R)) {l : List Nat} (hC : Chained c l) (x : Int) :
    Calls Try.prog 48 #[.pointer (some ⟨b, 0, none⟩), .int .i64 x] w (Quiet w (.bool (decide (0 ≤ x ∧ x.toNat ∈ l)))) := by
  by_cases h : x < 0 ∨ (c.nx.length : Int) ≤ x
  · have : decide (0 ≤ x ∧ x.toNat ∈ l) = false := by
      refine decide_eq_false fun ⟨h1, h2⟩ => ?_
      have := hC.lt _ h2
      omega
    rw [this]
    exact chHas_no H x h
  · obtain ⟨y, rfl⟩ : ∃ y : Nat, x = (y : Int) := ⟨x.toNat, by omega⟩
    have hy : y < c.nx.length := by omega
    have := chHas_yes H y hy hC.sth
    rw [hC.th y hy] at this
    have e2 : decide (0 ≤ (y : Int) ∧ (y : Int).toNat ∈ l) = decide (y ∈ l) := by simp
    rw [e2]
    exact this
end
end Go.Proofs.Ytfjdgjdkpmljkaa
