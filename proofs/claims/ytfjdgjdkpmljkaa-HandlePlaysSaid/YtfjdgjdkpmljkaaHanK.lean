/-
  HandleKeeps: the walk.
-/
import Derived.Test.YtfjdgjdkpmljkaaHanF
namespace Go.Proofs.Ytfjdgjdkpmljkaa
open Go.RowKit

def placeCells (L : List PlaceS) : List Value := L.flatMap fun p => [.int .i64 p.page, .int .i64 p.obj, .int .i64 p.len]
theorem placeCells_append (L M : List PlaceS) : placeCells (L ++ M) = placeCells L ++ placeCells M := by simp [placeCells]
theorem placeCells_length : ∀ L : List PlaceS, (placeCells L).length = L.length * 3
  | [] => rfl
  | p :: L => by
    have := placeCells_length L
    simp only [placeCells, List.flatMap_cons, List.length_append, List.length_cons, List.length_nil] at this ⊢
    omega
theorem placeCells_one (L : List PlaceS) : ∀ u ∈ placeCells L, u.oneCell' = true := by
  intro u hu
  simp only [placeCells, List.mem_flatMap, List.mem_cons, List.not_mem_nil, or_false] at hu
  obtain ⟨p, _, rfl | rfl | rfl⟩ := hu <;> rfl
theorem placeCells_get : ∀ (L : List PlaceS) (k j : Nat), k < L.length → j < 3 → (placeCells L)[k * 3 + j]? = some (.int .i64 ((L.getD k PlaceS.zero).comp j))
  | [], k, j, h, _ => by simp at h
  | p :: L, 0, j, _, hj => by
    have : j = 0 ∨ j = 1 ∨ j = 2 := by omega
    rcases this with rfl | rfl | rfl <;> rfl
  | p :: L, k + 1, j, h, hj => by
    have := placeCells_get L k j (by simpa using h) hj
    simp only [placeCells, List.flatMap_cons] at this ⊢
    rw [show (k + 1) * 3 + j = 3 + (k * 3 + j) by omega]
    rw [List.getElem?_append_right (by simp)]
    simpa using this

theorem reads_place {w : World} {g o m c k : Nat} {L : List PlaceS} (h : Reads w (.slice (some ⟨g, o, none⟩) m c) 3 m (placeCells L)) (hk : k < L.length) :
    w.cell? ⟨g, o + k * 3, none⟩ = some (.int .i64 (L.getD k PlaceS.zero).page) ∧ w.cell? ⟨g, o + k * 3 + 1, none⟩ = some (.int .i64 (L.getD k PlaceS.zero).obj) ∧ w.cell? ⟨g, o + k * 3 + 2, none⟩ = some (.int .i64 (L.getD k PlaceS.zero).len) := by
  have hl := h.len
  rw [placeCells_length] at hl
  obtain ⟨b', o', hb, hc⟩ := h.at (by omega)
  cases hb
  exact ⟨hc _ _ (placeCells_get L k 0 hk (by omega)), hc _ _ (placeCells_get L k 1 hk (by omega)), hc _ _ (placeCells_get L k 2 hk (by omega))⟩

theorem elem_place : ElemOf Try.prog 37 24 3 24 := ElemOf.mk (z := .agg #[.int .i64 0, .int .i64 0, .int .i64 0]) (by kernel_rfl) (by kernel_rfl) rfl (by decide)

def tabList (L : List PlaceS) : TabS := ⟨fun h => if h = 0 then PlaceS.zero else L.getD (h - 1) PlaceS.zero, L.length⟩
theorem tabList_all {L : List PlaceS} {h : Nat} (h1 : 1 ≤ h) : (tabList L).all h = L.getD (h - 1) PlaceS.zero := if_neg (by omega)
theorem tabList_nil : tabList [] = TabS.zero := by
  unfold tabList TabS.zero
  congr 1
  funext h
  split <;> simp
theorem tabList_ne {L : List PlaceS} (hL : ∀ p ∈ L, p.ok) {k : Nat} (hk : k < L.length) : L.getD k PlaceS.zero ≠ PlaceS.zero := by
  refine PlaceS.ne_zero (hL _ ?_)
  simp [List.getD, List.getElem?_eq_getElem hk]

set_option maxRecDepth 100000 in
theorem tabList_make {L : List PlaceS} (hL : ∀ p ∈ L, p.ok) (hl : L.length < 512) {p : PlaceS} (hp : p.ok) : (tabList L).make p = (((L.length : Int) + 1, 0), tabList (L ++ [p])) := by
  have hf : (tabList L).free = some (L.length + 1) := by
    refine TabS.free_is (by omega) (by omega) ?_ fun h' h1 h2 => ?_
    · rw [tabList_all (by omega)]; simp
    · rw [tabList_all h1]; exact tabList_ne hL (by omega)
  have key : ({ (tabList L).put (L.length + 1) p with many := (tabList L).many + 1 } : TabS) = tabList (L ++ [p]) := by
    unfold TabS.put tabList
    simp only
    congr 1
    · funext h
      by_cases h0 : h = 0
      · subst h0; rw [if_neg (by omega), if_pos rfl, if_pos rfl]
      · rw [if_neg h0, if_neg h0]
        by_cases h1 : h = L.length + 1
        · subst h1; simp
        · rw [if_neg h1]
          by_cases h2 : h - 1 < L.length
          · simp [List.getD, List.getElem?_append_left h2]
          · simp [List.getD, List.getElem?_eq_none (show L.length ≤ h - 1 by omega), List.getElem?_eq_none (show (L ++ [p]).length ≤ h - 1 by simp; omega)]
    · simp
  rw [TabS.make_some hp hf, key]
  rfl

def okL (L : List PlaceS) : List PlaceS := L.filter fun p => decide p.ok
theorem okL_ok (L : List PlaceS) : ∀ p ∈ okL L, p.ok := by
  intro p hp
  simpa using (List.mem_filter.1 hp).2
theorem okL_length (L : List PlaceS) : (okL L).length ≤ L.length := List.length_filter_le _ _
theorem okL_snoc (L : List PlaceS) (p : PlaceS) : okL (L ++ [p]) = if p.ok then okL L ++ [p] else okL L := by
  unfold okL
  rw [List.filter_append]
  by_cases h : p.ok <;> simp [h]

theorem tabList_step (L : List PlaceS) (p : PlaceS) (hl : L.length < 512) : ((tabList (okL L)).make p).2 = tabList (okL (L ++ [p])) := by
  rw [okL_snoc]
  have := okL_length L
  by_cases h : p.ok
  · rw [if_pos h, tabList_make (okL_ok L) (by omega) h]
  · rw [if_neg h, TabS.make_bad h]

def placesOf (zs : List Int) (n : Nat) : List PlaceS := (List.range n).map fun k => ⟨zs.getD (k * 3 + 0) 0, zs.getD (k * 3 + 1) 0, zs.getD (k * 3 + 2) 0⟩
theorem placesOf_succ (zs : List Int) (n : Nat) : placesOf zs (n + 1) = placesOf zs n ++ [⟨zs.getD (n * 3 + 0) 0, zs.getD (n * 3 + 1) 0, zs.getD (n * 3 + 2) 0⟩] := by
  simp [placesOf, List.range_succ]
theorem placesOf_length (zs : List Int) (n : Nat) : (placesOf zs n).length = n := by simp [placesOf]

/-- The first handles have their places. -/
def Keeps (t : TabS) (L : List PlaceS) (made : Int) : Prop := ∀ h : Nat, 1 ≤ h → h ≤ L.length → (h : Int) ≠ made → t.get h = (L.getD (h - 1) PlaceS.zero, true)

section
variable {L : List PlaceS} (hL : ∀ p ∈ L, p.ok) (hl : L.length ≤ 60)
include hL hl
theorem tabList_in {h : Nat} (h1 : 1 ≤ h) (h2 : h ≤ L.length) : (tabList L).inb h = true := TabS.inb_mk (by omega) (by omega) (by rw [Int.toNat_natCast, tabList_all h1]; exact tabList_ne hL (by omega))
theorem tabList_get {h : Nat} (h1 : 1 ≤ h) (h2 : h ≤ L.length) : (tabList L).get h = (L.getD (h - 1) PlaceS.zero, true) := by
  unfold TabS.get
  rw [if_pos (tabList_in hL hl h1 h2), Int.toNat_natCast, tabList_all h1]
theorem keeps_same (x : Int) : Keeps (tabList L) L x := fun _ h1 h2 _ => tabList_get hL hl h1 h2
theorem keeps_make (p : PlaceS) (x : Int) : Keeps ((tabList L).make p).2 L x := by
  by_cases hp : p.ok
  · rw [tabList_make hL (by omega) hp]
    intro h h1 h2 _
    have hL' : ∀ q ∈ L ++ [p], q.ok := by
      intro q hq
      rcases List.mem_append.1 hq with hq | hq
      · exact hL q hq
      · simp at hq; subst hq; exact hp
    have e : (tabList (L ++ [p])).inb h = true := TabS.inb_mk (by omega) (by omega) (by rw [Int.toNat_natCast, tabList_all h1]; exact tabList_ne hL' (by simp; omega))
    unfold TabS.get
    rw [if_pos e, Int.toNat_natCast, tabList_all h1]
    simp [List.getD, List.getElem?_append_left (show h - 1 < L.length by omega)]
  · rw [TabS.make_bad hp]
    exact keeps_same hL hl x
theorem made_make (p : PlaceS) (h0 : 0 < ((tabList L).make p).1.1) : ((tabList L).make p).2.get ((tabList L).make p).1.1 = (p, true) := by
  by_cases hp : p.ok
  · rw [tabList_make hL (by omega) hp]
    have e : (tabList (L ++ [p])).all ((L.length : Int) + 1).toNat = p := by
      rw [show ((L.length : Int) + 1).toNat = L.length + 1 by omega, tabList_all (by omega)]
      simp
    have e2 : (tabList (L ++ [p])).inb ((L.length : Int) + 1) = true := TabS.inb_mk (by omega) (by omega) (by rw [e]; exact PlaceS.ne_zero hp)
    show (tabList (L ++ [p])).get ((L.length : Int) + 1) = _
    unfold TabS.get
    rw [if_pos e2, e]
  · rw [TabS.make_bad hp] at h0
    simp at h0
theorem keeps_put {h0 : Int} (q : PlaceS) (m : Int) (hi : (tabList L).inb h0 = true) : Keeps { (tabList L).put h0.toNat q with many := m } L h0 := by
  intro h h1 h2 hne
  obtain ⟨i1, i2, i3⟩ := TabS.inb_yes hi
  have e : ({ (tabList L).put h0.toNat q with many := m } : TabS).all h = (tabList L).all h := if_neg (by omega)
  have hin := tabList_in hL hl h1 h2
  obtain ⟨j1, j2, j3⟩ := TabS.inb_yes hin
  rw [Int.toNat_natCast] at j3
  have e2 : ({ (tabList L).put h0.toNat q with many := m } : TabS).inb h = true := TabS.inb_mk j1 j2 (by rw [Int.toNat_natCast, e]; exact j3)
  unfold TabS.get
  rw [if_pos e2, Int.toNat_natCast, e, tabList_all h1]
theorem keeps_drop (x : Int) : Keeps ((tabList L).drop x).2 L x := by
  unfold TabS.drop
  cases hi : (tabList L).inb x with
  | false => exact keeps_same hL hl x
  | true => exact keeps_put hL hl PlaceS.zero _ hi
theorem keeps_set (x : Int) (p : PlaceS) : Keeps ((tabList L).set x p).2 L x := by
  unfold TabS.set
  by_cases hh : (tabList L).inb x = true ∧ p.ok
  · rw [if_pos hh]; exact keeps_put hL hl p _ hh.1
  · rw [if_neg hh]; exact keeps_same hL hl x
end

end Go.Proofs.Ytfjdgjdkpmljkaa
