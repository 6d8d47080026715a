/-
  The chain as one assertion: its calls over the list that it stands for.
-/
import Derived.Test.YtfjdgjdkpmljkaaChn5
namespace Go.Proofs.Ytfjdgjdkpmljkaa
open Go.RowKit

def chnBody (b n : Nat) (l : List Nat) (g : ChainS × Nat × Nat × Nat) : HP := grp [pur (Chained g.1 l ∧ g.1.nx.length = n ∧ n ≤ 4096), pts b (chObj g.1 g.2.1 g.2.2.1 g.2.2.2), pts g.2.1 (intsObj g.1.nx), pts g.2.2.1 (intsObj g.1.la), pts g.2.2.2 (boolsObj g.1.th)]
def chn (b n : Nat) (l : List Nat) : HP := exh (chnBody b n l)

theorem nodup_len {l : List Nat} {n : Nat} (hn : l.Nodup) (h : ∀ x ∈ l, x < n) : l.length ≤ n := by
  induction n generalizing l with
  | zero => cases l with
    | nil => exact Nat.le_refl _
    | cons a m => exact absurd (h a (by simp)) (by omega)
  | succ n ih =>
    have h1 := ih (l := l.erase n) (hn.erase n) (fun x hx => by
      have h2 := h x (List.mem_of_mem_erase hx)
      have h3 : x ≠ n := by rintro rfl; exact hn.not_mem_erase hx
      omega)
    have h4 := List.length_erase (l := l) (a := n)
    split at h4 <;> omega

section
variable {e : Env} {w : World} {R : List HP} {b n : Nat} {l : List Nat}

theorem chn_open (H : Holds e w (chn b n l :: R)) : ∃ c g1 g2 g3, Chained c l ∧ c.nx.length = n ∧ n ≤ 4096 ∧ l.length ≤ 4096 ∧ Holds e w (pts b (chObj c g1 g2 g3) :: pts g1 (intsObj c.nx) :: pts g2 (intsObj c.la) :: pts g3 (boolsObj c.th) :: R) := by
  obtain ⟨⟨c, g1, g2, g3⟩, h⟩ := Holds.exE H
  have h2 := h.ungrp
  have hp := Holds.purE h2
  refine ⟨c, g1, g2, g3, hp.1, hp.2.1, hp.2.2, ?_, Holds.drop h2⟩
  have := nodup_len hp.1.nodup hp.1.lt
  have h3 := hp.2.1
  have h4 := hp.2.2
  simp only at this h3
  omega
theorem chn_close {c : ChainS} {g1 g2 g3 : Nat} (hC : Chained c l) (hl : c.nx.length = n) (hn : n ≤ 4096) (H : Holds e w (pts b (chObj c g1 g2 g3) :: pts g1 (intsObj c.nx) :: pts g2 (intsObj c.la) :: pts g3 (boolsObj c.th) :: R)) : Holds e w (chn b n l :: R) :=
  Holds.mkExh (f := chnBody b n l) (c, g1, g2, g3) (Holds.mkGrp (Holds.mkPur ⟨hC, hl, hn⟩ H))

theorem chn_facts (H : Holds e w (chn b n l :: R)) : l.Nodup ∧ (∀ x ∈ l, x < n) ∧ n ≤ 4096 ∧ l.length ≤ n := by
  obtain ⟨c, g1, g2, g3, hC, rfl, hn, hl, h⟩ := chn_open H
  exact ⟨hC.nodup, hC.lt, hn, nodup_len hC.nodup hC.lt⟩

theorem cNew (H : Holds e w R) (s : Int) (n : Nat) (hs : max 0 (min 4096 s) = n) :
    Calls Try.prog 32 #[.int .i64 s] w (RetEx e (fun b : Nat => .pointer (some ⟨b, 0, none⟩)) (fun b => chn b n [] :: R)) := by
  refine (chNew_any H s n hs).mono ?_
  rintro en w' ⟨⟨b, g1, g2, g3⟩, rfl, h⟩
  exact ⟨b, rfl, chn_close (Chained.zero n) (by simp [ChainS.zero]) (by omega) h⟩

def chPushed (n : Nat) (l : List Nat) (x : Int) : List Nat := if 0 ≤ x ∧ x < n then l.erase x.toNat ++ [x.toNat] else l
def chDropped (l : List Nat) (x : Int) : List Nat := if 0 ≤ x then l.erase x.toNat else l

theorem cPush (H : Holds e w (chn b n l :: R)) (x : Int) : Calls Try.prog 33 #[.pointer (some ⟨b, 0, none⟩), .int .i64 x] w (Ret e (.bool (decide (0 ≤ x ∧ x < n))) (chn b n (chPushed n l x) :: R)) := by
  obtain ⟨c, g1, g2, g3, hC, rfl, hn, hl, h⟩ := chn_open H
  unfold chPushed
  by_cases hx : 0 ≤ x ∧ x < c.nx.length
  · obtain ⟨y, rfl⟩ : ∃ y : Nat, x = (y : Int) := ⟨x.toNat, by omega⟩
    rw [decide_eq_true hx, if_pos hx]
    refine (chPush_any h hC (x := y) (by omega) hn hl).mono ?_
    rintro en w' ⟨c', hC', hl', rfl, h'⟩
    exact ⟨rfl, chn_close hC' hl' hn h'⟩
  · rw [decide_eq_false hx, if_neg hx]
    refine (chPush_no h x (by omega)).mono ?_
    rintro en w' ⟨rfl, nq, rfl⟩
    exact ⟨rfl, H.drewN nq⟩

theorem cDrop (H : Holds e w (chn b n l :: R)) (x : Int) : Calls Try.prog 35 #[.pointer (some ⟨b, 0, none⟩), .int .i64 x] w (Ret e (.bool (decide (0 ≤ x ∧ x.toNat ∈ l))) (chn b n (chDropped l x) :: R)) := by
  obtain ⟨c, g1, g2, g3, hC, rfl, hn, hl, h⟩ := chn_open H
  unfold chDropped
  by_cases hx : 0 ≤ x ∧ x.toNat ∈ l
  · obtain ⟨y, rfl⟩ : ∃ y : Nat, x = (y : Int) := ⟨x.toNat, by omega⟩
    rw [decide_eq_true hx, if_pos hx.1]
    obtain ⟨A, B, rfl⟩ := List.append_of_mem hx.2
    simp only [Int.toNat_natCast] at *
    have hnd := hC.nodup
    have hxA : y ∉ A := by
      intro h
      rw [List.nodup_append] at hnd
      exact hnd.2.2 y h y (by simp) rfl
    rw [List.erase_append_right _ hxA, List.erase_cons_head]
    refine (chDrop_yes h hC hn hl).mono ?_
    rintro en w' ⟨rfl, h'⟩
    exact ⟨rfl, chn_close hC.drop (by simp only [ChainS.drop]; split <;> simp) hn h'⟩
  · rw [decide_eq_false hx]
    have e1 : (if 0 ≤ x then l.erase x.toNat else l) = l := by
      split
      · next h0 => exact List.erase_of_not_mem (fun hm => hx ⟨h0, hm⟩)
      · rfl
    rw [e1]
    refine (chDrop_no h hC x hx).mono ?_
    rintro en w' ⟨rfl, nq, rfl⟩
    exact ⟨rfl, H.drewN nq⟩

theorem cHas (H : Holds e w (chn b n l :: R)) (x : Int) : Calls Try.prog 48 #[.pointer (some ⟨b, 0, none⟩), .int .i64 x] w (Quiet w (.bool (decide (0 ≤ x ∧ x.toNat ∈ l)))) := by
  obtain ⟨c, g1, g2, g3, hC, rfl, hn, hl, h⟩ := chn_open H
  exact chHas_any h hC x
theorem cLen (H : Holds e w (chn b n l :: R)) : Calls Try.prog 36 #[.pointer (some ⟨b, 0, none⟩)] w (Quiet w (.int .i64 l.length)) := by
  obtain ⟨c, g1, g2, g3, hC, rfl, hn, hl, h⟩ := chn_open H
  rw [← hC.many]
  exact chLen_ok h
def hd0 : List Nat → Int
  | [] => 0
  | x :: _ => x
theorem hdI_told (l : List Nat) : (if hdI l = -1 then 0 else hdI l) = hd0 l ∧ decide (hdI l ≠ -1) = decide (l ≠ []) := by
  cases l with
  | nil => simp [hdI, hd0]
  | cons x m => simp [hdI, hd0]
theorem cOldest (H : Holds e w (chn b n l :: R)) : Calls Try.prog 34 #[.pointer (some ⟨b, 0, none⟩)] w (Quiet w (.tuple #[.int .i64 (hd0 l), .bool (decide (l ≠ []))])) := by
  obtain ⟨c, g1, g2, g3, hC, rfl, hn, hl, h⟩ := chn_open H
  have := chOldest_ok h
  rw [hC.old, (hdI_told l).1, (hdI_told l).2] at this
  exact this

set_option maxHeartbeats 400000 in
theorem chNewer_no {v : Value} {x : Int} (h : Calls Try.prog 48 #[v, .int .i64 x] w (Quiet w (.bool false))) : Calls Try.prog 75 #[v, .int .i64 x] w (Quiet w (.tuple #[.int .i64 0, .bool false])) := by
  go_enter Try.func75, Try.ntmps75
  go_wp2_with fail
  refine h.mono ?_
  rintro e w1 ⟨rfl, n1, rfl⟩
  go_wp2
  go_ret2
  exact ⟨rfl, _, rfl⟩
theorem chNewer_nil {w : World} (x : Int) : Calls Try.prog 75 #[.pointer none, .int .i64 x] w (Quiet w (.tuple #[.int .i64 0, .bool false])) := chNewer_no (chHas_nil x)

/-- What is next newer than x. -/
def nxt (l : List Nat) (x : Nat) : List Nat := (l.dropWhile (· ≠ x)).drop 1
theorem nxt_app {A B : List Nat} {x : Nat} (h : x ∉ A) : nxt (A ++ x :: B) x = B := by
  unfold nxt
  rw [List.dropWhile_append_of_pos (by intro a ha; simp; rintro rfl; exact h ha)]
  simp

set_option maxRecDepth 100000 in
set_option maxHeartbeats 400000 in
theorem cNewer (H : Holds e w (chn b n l :: R)) (x : Int) : Calls Try.prog 75 #[.pointer (some ⟨b, 0, none⟩), .int .i64 x] w (Quiet w (.tuple (if 0 ≤ x ∧ x.toNat ∈ l then #[.int .i64 (hd0 (nxt l x.toNat)), .bool (decide (nxt l x.toNat ≠ []))] else #[.int .i64 0, .bool false]))) := by
  have ch := cHas H x
  obtain ⟨c, g1, g2, g3, hC, rfl, hn, hl, h⟩ := chn_open H
  by_cases hx : 0 ≤ x ∧ x.toNat ∈ l
  · rw [if_pos hx]
    rw [decide_eq_true hx] at ch
    obtain ⟨y, rfl⟩ : ∃ y : Nat, x = (y : Int) := ⟨x.toNat, by omega⟩
    simp only [Int.toNat_natCast] at *
    have hy := hC.lt y hx.2
    have hv : c.nx.getD y 0 = hdI (nxt l y) := by
      obtain ⟨A, B, rfl⟩ := List.append_of_mem hx.2
      rw [nxt_app, hC.nx A y B rfl]
      intro hm
      have hnd := hC.nodup
      rw [List.nodup_append] at hnd
      exact hnd.2.2 y hm y (by simp) rfl
    have ct : ∀ w', Calls Try.prog 69 #[.int .i64 (hdI (nxt l y))] w' (Quiet w' (.tuple #[.int .i64 (hd0 (nxt l y)), .bool (decide (nxt l y ≠ []))])) := fun w' => by
      have ct := told_any w' (hdI (nxt l y))
      rw [(hdI_told _).1, (hdI_told _).2] at ct
      exact ct
    have CT := Lib.hid ct
    clear ct
    have hc2 := h.swap
    unfold intsObj at hc2
    have hb : w.cell? ⟨g1, y, none⟩ = some (.int .i64 (hdI (nxt l y))) := by rw [hc2.cells, intsA_get (by omega), hv]
    unfold chObj at h
    have hc := h.cells
    clear h hc2 hv H hC
    generalize c.nx.length = n at *
    generalize hdI (nxt l y) = o at *
    generalize hd0 (nxt l y) = o1 at *
    generalize decide (nxt l y ≠ []) = o2 at *
    clear hx
    go_enter Try.func75, Try.ntmps75
    go_wp2_with fail
    refine ch.mono ?_
    rintro e w1 ⟨rfl, n1, rfl⟩
    clear ch
    go_wp2_with fail
    refine (CT.out _).mono ?_
    rintro e w2 ⟨rfl, n2, rfl⟩
    go_wp2
    go_ret2
    exact ⟨rfl, _, rfl⟩
  · rw [if_neg hx]
    rw [decide_eq_false hx] at ch
    exact chNewer_no ch
end
end Go.Proofs.Ytfjdgjdkpmljkaa
