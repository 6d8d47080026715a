/-
  The package handle: each call as a function of the table's state.
-/
import Derived.Test.YtfjdgjdkpmljkaaHan2
namespace Go.Proofs.Ytfjdgjdkpmljkaa
open Go.RowKit

def TabS.inb (t : TabS) (x : Int) : Bool := decide (1 ≤ x ∧ x ≤ 512 ∧ t.all x.toNat ≠ PlaceS.zero)
def TabS.free (t : TabS) : Option Nat := ((List.range 512).find? fun k => decide (t.all (k + 1) = PlaceS.zero)).map (· + 1)
def TabS.make (t : TabS) (p : PlaceS) : (Int × Int) × TabS :=
  if p.ok then match t.free with
    | some h => ((h, 0), { t.put h p with many := t.many + 1 })
    | none => ((0, 11), t)
  else ((0, 1), t)
def TabS.get (t : TabS) (x : Int) : PlaceS × Bool := if t.inb x then (t.all x.toNat, true) else (PlaceS.zero, false)
def TabS.set (t : TabS) (x : Int) (p : PlaceS) : Bool × TabS := if t.inb x ∧ p.ok then (true, t.put x.toNat p) else (false, t)
def TabS.drop (t : TabS) (x : Int) : (PlaceS × Bool) × TabS := if t.inb x then ((t.all x.toNat, true), { t.put x.toNat PlaceS.zero with many := t.many - 1 }) else ((PlaceS.zero, false), t)

theorem TabS.inb_no {t : TabS} {x : Int} (h : t.inb x = false) : x < 1 ∨ 512 < x ∨ t.all x.toNat = PlaceS.zero := by
  unfold TabS.inb at h
  simp only [decide_eq_false_iff_not] at h
  apply Classical.byContradiction
  intro hn
  exact h ⟨by omega, by omega, fun e => hn (.inr (.inr e))⟩
theorem TabS.inb_yes {t : TabS} {x : Int} (h : t.inb x = true) : 1 ≤ x ∧ x ≤ 512 ∧ t.all x.toNat ≠ PlaceS.zero := by
  unfold TabS.inb at h
  exact of_decide_eq_true h

theorem TabS.free_some {t : TabS} {h : Nat} (hf : t.free = some h) : 1 ≤ h ∧ h ≤ 512 ∧ t.all h = PlaceS.zero ∧ ∀ h', 1 ≤ h' → h' < h → t.all h' ≠ PlaceS.zero := by
  unfold TabS.free at hf
  cases hk : (List.range 512).find? (fun k => decide (t.all (k + 1) = PlaceS.zero)) with
  | none => rw [hk] at hf; cases hf
  | some k =>
    rw [hk] at hf
    simp at hf
    subst hf
    have h1 := List.find?_some hk
    have h2 := List.mem_of_find?_eq_some hk
    simp at h1 h2
    refine ⟨by omega, by omega, h1, fun h' hh hlt e => ?_⟩
    have := (List.find?_range_eq_some.1 hk).2.2 (h' - 1) (by omega)
    rw [show h' - 1 + 1 = h' by omega] at this
    simp at this
    exact this e
theorem TabS.free_none {t : TabS} (hf : t.free = none) : ∀ h, 1 ≤ h → h ≤ 512 → t.all h ≠ PlaceS.zero := by
  intro h h1 h2 e
  unfold TabS.free at hf
  simp at hf
  have := hf (h - 1) (by omega)
  rw [show h - 1 + 1 = h by omega] at this
  exact this e

section
variable {e : Env} {w : World} {b : Nat} {t : TabS} {R : List HP}

theorem hmake (H : Holds e w (pts b t.obj :: R)) (p : PlaceS) (hm : 0 ≤ t.many) (hm2 : t.many ≤ 512) :
    Calls Try.prog 16 #[.pointer (some ⟨b, 0, none⟩), p.val] w (Ret e (.tuple #[.int .i64 (t.make p).1.1, .int .i64 (t.make p).1.2]) (pts b (t.make p).2.obj :: R)) := by
  unfold TabS.make
  by_cases hp : p.ok
  · rw [if_pos hp]
    cases hf : t.free with
    | none => exact hmake_full H p hp (TabS.free_none hf)
    | some h =>
      obtain ⟨h1, h2, h3, h4⟩ := TabS.free_some hf
      exact hmake_at H p hp h h1 h2 h3 h4 hm hm2
  · rw [if_neg hp]
    exact hmake_bad H p hp

theorem hget (H : Holds e w (pts b t.obj :: R)) (x : Int) :
    Calls Try.prog 21 #[.pointer (some ⟨b, 0, none⟩), .int .i64 x] w (Ret e (.tuple #[(t.get x).1.val, .bool (t.get x).2]) (pts b t.obj :: R)) := by
  unfold TabS.get
  cases hi : t.inb x with
  | false => exact get_no H x (TabS.inb_no hi)
  | true => obtain ⟨h1, h2, h3⟩ := TabS.inb_yes hi; exact get_yes H x h1 h2 h3

theorem hset (H : Holds e w (pts b t.obj :: R)) (x : Int) (p : PlaceS) :
    Calls Try.prog 22 #[.pointer (some ⟨b, 0, none⟩), .int .i64 x, p.val] w (Ret e (.bool (t.set x p).1) (pts b (t.set x p).2.obj :: R)) := by
  unfold TabS.set
  by_cases hp : p.ok
  · cases hi : t.inb x with
    | false => simp only [Bool.false_eq_true, false_and, if_false]; exact hset_no H x p (.inl (TabS.inb_no hi))
    | true => obtain ⟨h1, h2, h3⟩ := TabS.inb_yes hi; simp only [hp, and_self, if_true]; exact hset_yes H x p h1 h2 h3 hp
  · simp only [hp, and_false, if_false]; exact hset_no H x p (.inr hp)

theorem hdrop (H : Holds e w (pts b t.obj :: R)) (x : Int) (hm : 0 ≤ t.many) (hm2 : t.many ≤ 512) :
    Calls Try.prog 18 #[.pointer (some ⟨b, 0, none⟩), .int .i64 x] w (Ret e (.tuple #[(t.drop x).1.1.val, .bool (t.drop x).1.2]) (pts b (t.drop x).2.obj :: R)) := by
  unfold TabS.drop
  cases hi : t.inb x with
  | false => exact hdrop_no H x (TabS.inb_no hi)
  | true => obtain ⟨h1, h2, h3⟩ := TabS.inb_yes hi; exact hdrop_yes H x h1 h2 h3 hm hm2

set_option maxHeartbeats 400000 in
theorem lives19 (H : Holds e w R) : Calls Try.prog 20 #[] w (Ret e (.bool true) R) := by
  obtain ⟨t0, ht0⟩ : ∃ t0, t0 = TabS.zero := ⟨_, rfl⟩
  obtain ⟨p, hp⟩ : ∃ p : PlaceS, p = ⟨0, 0, 1⟩ := ⟨_, rfl⟩
  have a1 : (t0.make p).1 = (1, 0) := by subst ht0 hp; decide +kernel
  have a2 : ((t0.make p).2.make p).1 = (2, 0) := by subst ht0 hp; decide +kernel
  have a3 : ((((t0.make p).2.make p).2.drop 1).2.make p).1 = (1, 0) := by subst ht0 hp; decide +kernel
  have m0 : t0.many = 0 := by subst ht0; rfl
  have m1 : (t0.make p).2.many = 1 := by subst ht0 hp; decide +kernel
  have m2 : ((t0.make p).2.make p).2.many = 2 := by subst ht0 hp; decide +kernel
  have m3 : (((t0.make p).2.make p).2.drop 1).2.many = 1 := by subst ht0 hp; decide +kernel
  go_enter Try.func20, Try.ntmps20
  go_wp2_with fail
  refine (tabNew_any H).mono ?_
  rintro e w1 ⟨b, rfl, H1⟩
  rw [← ht0] at H1
  have H1a := Holds.alloc H1 (.cells #[.int .i64 0, .int .i64 0, .int .i64 1] 24)
  go_wp2_with fail
  generalize w1.heap.size = bx at *
  have hpv : p.val = .agg #[.int .i64 0, .int .i64 0, .int .i64 1] := by subst hp; rfl
  have c1 := hmake H1a.swap p (by omega) (by omega)
  rw [hpv, a1] at c1
  refine c1.mono ?_
  rintro e w2 ⟨rfl, H2⟩
  have hc2 := H2.swap.cells
  have c2 := hmake H2 p (by omega) (by omega)
  rw [hpv, a2] at c2
  have HPV := Lib.hid hpv
  clear ht0 hp a1 a2 hpv
  generalize (t0.make p).2 = t1 at *
  go_wp2_with fail
  refine c2.mono ?_
  rintro e w3 ⟨rfl, H3⟩
  clear c2
  have hc3 := H3.swap.cells
  generalize (t1.make p).2 = t2 at *
  go_wp2_with fail
  refine (hdrop H3 1 (by omega) (by omega)).mono ?_
  rintro e w4 ⟨rfl, H4⟩
  have c3 := hmake H4 p (by omega) (by omega)
  rw [HPV.out, a3] at c3
  have hc4 := H4.swap.cells
  clear a3 m0 m1 m2 m3
  go_wp2_with fail
  refine c3.mono ?_
  rintro e w5 ⟨rfl, H5⟩
  clear c3
  go_wp2
  go_ret
  exact ⟨rfl, H5.drop.drop⟩
end

end Go.Proofs.Ytfjdgjdkpmljkaa
