/-
  The order of entries: New, Len, In, Newer, Add, Remove.
-/
import Derived.Test.YtfjdgjdkpmljkaaChn8
namespace Go.Proofs.Ytfjdgjdkpmljkaa
open Go.RowKit

def lruBody (ob : Nat) (L : List Nat) (b : Nat) : HP := grp [pts ob (.cells #[.pointer (some ⟨b, 0, none⟩)] 120 (0, 0)), chn b 513 L]
def lruH (ob : Nat) (L : List Nat) : HP := exh (lruBody ob L)

/-- What Add, Remove of numbers make of a list, and how many they count. -/
def addL (L : List Nat) : List Int → List Nat × Nat
  | [] => (L, 0)
  | z :: zs => if 1 ≤ z ∧ z ≤ 512 then ((addL (L.erase z.toNat ++ [z.toNat]) zs).1, (addL (L.erase z.toNat ++ [z.toNat]) zs).2 + 1) else addL L zs
def remL (L : List Nat) : List Int → List Nat × Nat
  | [] => (L, 0)
  | z :: zs => if 0 ≤ z ∧ z.toNat ∈ L then ((remL (L.erase z.toNat) zs).1, (remL (L.erase z.toNat) zs).2 + 1) else remL L zs
theorem addL_snoc (z : Int) : ∀ (zs : List Int) (L : List Nat), addL L (zs ++ [z]) = if 1 ≤ z ∧ z ≤ 512 then ((addL L zs).1.erase z.toNat ++ [z.toNat], (addL L zs).2 + 1) else addL L zs
  | [], L => by simp [addL]
  | y :: zs, L => by
    simp only [List.cons_append, addL]
    by_cases hy : 1 ≤ y ∧ y ≤ 512
    · rw [if_pos hy, if_pos hy, addL_snoc z zs]
      split
      · simp
      · rfl
    · rw [if_neg hy, if_neg hy, addL_snoc z zs]
theorem remL_snoc (z : Int) : ∀ (zs : List Int) (L : List Nat), remL L (zs ++ [z]) = if 0 ≤ z ∧ z.toNat ∈ (remL L zs).1 then ((remL L zs).1.erase z.toNat, (remL L zs).2 + 1) else remL L zs
  | [], L => by simp [remL]
  | y :: zs, L => by
    simp only [List.cons_append, remL]
    by_cases hy : 0 ≤ y ∧ y.toNat ∈ L
    · simp only [if_pos hy, remL_snoc z zs]
      split <;> rfl
    · simp only [if_neg hy, remL_snoc z zs]
theorem addL_count (L : List Nat) (zs : List Int) : (addL L zs).2 ≤ zs.length := by
  induction zs generalizing L with
  | nil => exact Nat.le_refl _
  | cons z zs ih =>
    simp only [addL]
    split
    · have := ih (L.erase z.toNat ++ [z.toNat]); simp; exact this
    · have := ih L; simp; omega
theorem remL_count (L : List Nat) (zs : List Int) : (remL L zs).2 ≤ zs.length := by
  induction zs generalizing L with
  | nil => exact Nat.le_refl _
  | cons z zs ih =>
    simp only [remL]
    split
    · have := ih (L.erase z.toNat); simp; exact this
    · have := ih L; simp; omega

section
variable {e : Env} {w : World} {R : List HP} {ob : Nat} {L : List Nat}

theorem lru_open (H : Holds e w (lruH ob L :: R)) : ∃ b, Holds e w (pts ob (.cells #[.pointer (some ⟨b, 0, none⟩)] 120 (0, 0)) :: chn b 513 L :: R) := by
  obtain ⟨b, h⟩ := Holds.exE H
  exact ⟨b, h.ungrp⟩
theorem lru_close {b : Nat} (H : Holds e w (pts ob (.cells #[.pointer (some ⟨b, 0, none⟩)] 120 (0, 0)) :: chn b 513 L :: R)) : Holds e w (lruH ob L :: R) :=
  Holds.mkExh (f := lruBody ob L) b (Holds.mkGrp H)
theorem lru_facts (H : Holds e w (lruH ob L :: R)) : L.Nodup ∧ (∀ x ∈ L, x < 513) ∧ L.length ≤ 513 := by
  obtain ⟨b, h⟩ := lru_open H
  have := chn_facts h.drop
  exact ⟨this.1, this.2.1, this.2.2.2⟩

theorem lruNew (H : Holds e w R) : Calls Try.prog 54 #[] w (RetEx e (fun ob : Nat => .pointer (some ⟨ob, 0, none⟩)) (fun ob => lruH ob [] :: R)) := by
  go_enter Try.func54, Try.ntmps54
  go_wp2_with fail
  refine (cNew H 513 513 (by decide)).mono ?_
  rintro e w1 ⟨b, rfl, H1⟩
  go_wp2_with fail
  go_ret
  exact ⟨_, rfl, lru_close (H1.alloc _)⟩

theorem lruLen (H : Holds e w (lruH ob L :: R)) : Calls Try.prog 56 #[.pointer (some ⟨ob, 0, none⟩)] w (Ret e (.int .i64 L.length) (lruH ob L :: R)) := by
  obtain ⟨b, h⟩ := lru_open H
  have hc := h.cells
  go_enter Try.func56, Try.ntmps56
  go_wp2_with fail
  refine (retQ (cLen h.drop) h).mono ?_
  rintro e w1 ⟨rfl, H1⟩
  go_wp2
  go_ret
  exact ⟨rfl, lru_close H1⟩
theorem lruIn (H : Holds e w (lruH ob L :: R)) (x : Int) : Calls Try.prog 57 #[.pointer (some ⟨ob, 0, none⟩), .int .i64 x] w (Ret e (.bool (decide (0 ≤ x ∧ x.toNat ∈ L))) (lruH ob L :: R)) := by
  obtain ⟨b, h⟩ := lru_open H
  have hc := h.cells
  go_enter Try.func57, Try.ntmps57
  go_wp2_with fail
  refine (retQ (cHas h.drop x) h).mono ?_
  generalize decide (0 ≤ x ∧ x.toNat ∈ L) = bq at *
  rintro e w1 ⟨rfl, H1⟩
  go_wp2
  go_ret
  exact ⟨rfl, lru_close H1⟩
theorem lruNewer (H : Holds e w (lruH ob L :: R)) (x : Int) : Calls Try.prog 62 #[.pointer (some ⟨ob, 0, none⟩), .int .i64 x] w (Ret e (.tuple #[.int .i64 (if 0 ≤ x ∧ x.toNat ∈ L then hd0 (nxt L x.toNat) else 0), .bool (if 0 ≤ x ∧ x.toNat ∈ L then ne0 (nxt L x.toNat) else false)]) (lruH ob L :: R)) := by
  obtain ⟨b, h⟩ := lru_open H
  have hc := h.cells
  have cn := cNewer h.drop x
  rw [ne0_eq] at cn
  have e1 : (if 0 ≤ x ∧ x.toNat ∈ L then #[Value.int .i64 (hd0 (nxt L x.toNat)), .bool (ne0 (nxt L x.toNat))] else #[.int .i64 0, .bool false]) = #[.int .i64 (if 0 ≤ x ∧ x.toNat ∈ L then hd0 (nxt L x.toNat) else 0), .bool (if 0 ≤ x ∧ x.toNat ∈ L then ne0 (nxt L x.toNat) else false)] := by split <;> rfl
  rw [e1] at cn
  clear e1
  generalize (if 0 ≤ x ∧ x.toNat ∈ L then hd0 (nxt L x.toNat) else 0) = o1 at *
  generalize (if 0 ≤ x ∧ x.toNat ∈ L then ne0 (nxt L x.toNat) else false) = o2 at *
  go_enter Try.func62, Try.ntmps62
  go_wp2_with fail
  refine (retQ cn h).mono ?_
  rintro e w1 ⟨rfl, H1⟩
  go_wp2
  go_ret2
  exact ⟨rfl, lru_close H1⟩

theorem lruLen_nil (H : Holds e w R) : Calls Try.prog 56 #[.pointer none] w (Ret e (.int .i64 0) R) := by
  go_enter Try.func56, Try.ntmps56
  go_wp2
  go_ret
  exact ⟨rfl, H⟩
theorem lruIn_nil (H : Holds e w R) (x : Int) : Calls Try.prog 57 #[.pointer none, .int .i64 x] w (Ret e (.bool false) R) := by
  go_enter Try.func57, Try.ntmps57
  go_wp2
  go_ret
  exact ⟨rfl, H⟩
theorem lruNewer_nil (H : Holds e w R) (x : Int) : Calls Try.prog 62 #[.pointer none, .int .i64 x] w (Ret e (.tuple #[.int .i64 0, .bool false]) R) := by
  go_enter Try.func62, Try.ntmps62
  go_wp2
  go_ret2
  exact ⟨rfl, H⟩

theorem reads_ints_at {v : Value} {n : Nat} {xs : List Int} (hr : Reads w v 1 n (ints xs)) : xs.length = n ∧ ∃ a c, v = .slice a n c ∧ (0 < n → ∃ b o, a = some ⟨b, o, none⟩) := by
  obtain ⟨a, c, rfl⟩ := hr.shape
  refine ⟨by have := hr.len; simpa using this, a, c, rfl, fun h => ?_⟩
  obtain ⟨b, o, h1, _⟩ := hr.at (by omega)
  exact ⟨b, o, h1⟩

set_option maxHeartbeats 2000000 in
theorem lruAdd (H : Holds e w (lruH ob L :: R)) (xs : List Int) (v : Value) (n : Nat) (hn : n ≤ 1000000) (hrR : ∀ w', Holds e w' R → Reads w' v 1 n (ints xs)) :
    Calls Try.prog 55 #[.pointer (some ⟨ob, 0, none⟩), v] w (Ret e (.int .i64 (addL L xs).2) (lruH ob (addL L xs).1 :: R)) := by
  obtain ⟨hxl, a, c, rfl, hsome⟩ := reads_ints_at (hrR w H.drop)
  go_enter Try.func55, Try.ntmps55
  go_wp2
  go_loopw [5, 10] (fun q i wr => ∃ k : Nat, k ≤ n ∧ i = .int .i64 (k : Nat) ∧ q = .int .i64 ((addL L (xs.take k)).2 : Nat) ∧ Holds e wr (lruH ob (addL L (xs.take k)).1 :: R)) (fun _ i _ => n - (intOf i).toNat)
  case atStart => exact ⟨0, by omega, rfl, rfl, H⟩
  case round =>
    obtain ⟨k, hk, rfl, rfl, HH⟩ := hrel
    obtain ⟨b, hh⟩ := lru_open HH
    have hcnt := addL_count L (xs.take k)
    have htl : (xs.take k).length = k := by rw [List.length_take]; omega
    rw [htl] at hcnt
    by_cases hlt : k < n
    · obtain ⟨g, o, rfl⟩ := hsome (by omega)
      have hz : xs[k]? = some (xs.getD k 0) := by simp [List.getD, List.getElem?_eq_getElem (show k < xs.length by omega)]
      have hcx : wr.cell? ⟨g, o + k, none⟩ = some (.int .i64 (xs.getD k 0)) := by
        obtain ⟨b', o', h1, h2⟩ := (hrR wr hh.drop.drop).at (by omega)
        cases h1
        exact h2 k _ (ints_get hz)
      have hs := addL_snoc (xs.getD k 0) (xs.take k) L
      rw [show xs.take k ++ [xs.getD k 0] = xs.take (k + 1) by rw [List.take_add_one, hz]; rfl] at hs
      generalize xs.getD k 0 = z at *
      have HS := Lib.hid hs
      clear hs hz hxl hsome htl
      have hc := hh.cells
      generalize addL L (xs.take k) = L1 at *
      have cp := cPush hh.swap z
      by_cases h1 : 1 ≤ z ∧ z ≤ 512
      · rw [if_pos h1] at HS
        rw [decide_eq_true (by omega), show chPushed 513 L1.1 z = L1.1.erase z.toNat ++ [z.toNat] from if_pos (by omega)] at cp
        obtain ⟨h2, h3⟩ := h1
        generalize L1.1.erase z.toNat ++ [z.toNat] = L3 at *
        go_wp2_with fail
        refine cp.mono ?_
        rintro e w2 ⟨rfl, H2⟩
        clear cp hc
        go_wp2
        go_roundw
        case rel => exact ⟨k + 1, by omega, by go_num, by rw [HS.out]; rfl, by rw [HS.out]; exact lru_close H2.swap⟩
        case measure => simp [intOf]; omega
      · rw [if_neg h1] at HS
        rcases (by omega : z < 1 ∨ (1 ≤ z ∧ 512 < z)) with h2 | ⟨h2, h3⟩
        · clear cp
          go_wp2
          go_roundw
          case rel => exact ⟨k + 1, by omega, by go_num, by rw [HS.out], by rw [HS.out]; exact HH⟩
          case measure => simp [intOf]; omega
        · rw [decide_eq_false (by omega), show chPushed 513 L1.1 z = L1.1 from if_neg (by omega)] at cp
          clear h1
          go_wp2_with fail
          refine cp.mono ?_
          rintro e w2 ⟨rfl, H2⟩
          clear cp hc
          go_wp2
          go_roundw
          case rel => exact ⟨k + 1, by omega, by go_num, by rw [HS.out], by rw [HS.out]; exact lru_close H2.swap⟩
          case measure => simp [intOf]; omega
    · obtain rfl : k = n := by omega
      rw [show xs.take k = xs from List.take_of_length_le (by omega)] at *
      go_wp2
      go_ret
      exact ⟨rfl, HH⟩

theorem dropped_len (L : List Nat) (x : Int) : (chDropped L x).length ≤ L.length := by
  unfold chDropped
  split
  · exact List.length_erase_le
  · exact Nat.le_refl _

set_option maxHeartbeats 2000000 in
theorem lruRemove (H : Holds e w (lruH ob L :: R)) (xs : List Int) (v : Value) (n : Nat) (hn : n ≤ 1000000) (hrR : ∀ w', Holds e w' R → Reads w' v 1 n (ints xs)) :
    Calls Try.prog 60 #[.pointer (some ⟨ob, 0, none⟩), v] w (Ret e (.int .i64 (remL L xs).2) (lruH ob (remL L xs).1 :: R)) := by
  obtain ⟨hxl, a, c, rfl, hsome⟩ := reads_ints_at (hrR w H.drop)
  go_enter Try.func60, Try.ntmps60
  go_wp2
  go_loopw [5, 10] (fun q i wr => ∃ k : Nat, k ≤ n ∧ i = .int .i64 (k : Nat) ∧ q = .int .i64 ((remL L (xs.take k)).2 : Nat) ∧ Holds e wr (lruH ob (remL L (xs.take k)).1 :: R)) (fun _ i _ => n - (intOf i).toNat)
  case atStart => exact ⟨0, by omega, rfl, rfl, H⟩
  case round =>
    obtain ⟨k, hk, rfl, rfl, HH⟩ := hrel
    obtain ⟨b, hh⟩ := lru_open HH
    have hcnt := remL_count L (xs.take k)
    have htl : (xs.take k).length = k := by rw [List.length_take]; omega
    rw [htl] at hcnt
    by_cases hlt : k < n
    · obtain ⟨g, o, rfl⟩ := hsome (by omega)
      have hz : xs[k]? = some (xs.getD k 0) := by simp [List.getD, List.getElem?_eq_getElem (show k < xs.length by omega)]
      have hcx : wr.cell? ⟨g, o + k, none⟩ = some (.int .i64 (xs.getD k 0)) := by
        obtain ⟨b', o', h1, h2⟩ := (hrR wr hh.drop.drop).at (by omega)
        cases h1
        exact h2 k _ (ints_get hz)
      have hs := remL_snoc (xs.getD k 0) (xs.take k) L
      rw [show xs.take k ++ [xs.getD k 0] = xs.take (k + 1) by rw [List.take_add_one, hz]; rfl] at hs
      generalize xs.getD k 0 = z at *
      have HS := Lib.hid hs
      clear hs hz hxl hsome htl
      have hc := hh.cells
      generalize remL L (xs.take k) = L1 at *
      have cp := cDrop hh.swap z
      by_cases h1 : 0 ≤ z ∧ z.toNat ∈ L1.1
      · rw [if_pos h1] at HS
        rw [decide_eq_true h1, show chDropped L1.1 z = L1.1.erase z.toNat from if_pos h1.1] at cp
        generalize L1.1.erase z.toNat = L3 at *
        clear h1
        go_wp2_with fail
        refine cp.mono ?_
        rintro e w2 ⟨rfl, H2⟩
        clear cp hc
        go_wp2
        go_roundw
        case rel => exact ⟨k + 1, by omega, by go_num, by rw [HS.out]; rfl, by rw [HS.out]; exact lru_close H2.swap⟩
        case measure => simp [intOf]; omega
      · rw [if_neg h1] at HS
        have hno : chDropped L1.1 z = L1.1 := by
          unfold chDropped
          split
          · next h0 => exact List.erase_of_not_mem (fun hm => h1 ⟨h0, hm⟩)
          · rfl
        rw [decide_eq_false h1, hno] at cp
        clear h1 hno
        go_wp2_with fail
        refine cp.mono ?_
        rintro e w2 ⟨rfl, H2⟩
        clear cp hc
        go_wp2
        go_roundw
        case rel => exact ⟨k + 1, by omega, by go_num, by rw [HS.out], by rw [HS.out]; exact lru_close H2.swap⟩
        case measure => simp [intOf]; omega
    · obtain rfl : k = n := by omega
      rw [show xs.take k = xs from List.take_of_length_le (by omega)] at *
      go_wp2
      go_ret
      exact ⟨rfl, HH⟩

theorem lruAdd_nil (H : Holds e w R) (xs : List Int) (v : Value) (n : Nat) (hn : n ≤ 1000000) (hrR : ∀ w', Holds e w' R → Reads w' v 1 n (ints xs)) :
    Calls Try.prog 55 #[.pointer none, v] w (Ret e (.int .i64 0) R) := by
  obtain ⟨hxl, a, c, rfl, hsome⟩ := reads_ints_at (hrR w H)
  go_enter Try.func55, Try.ntmps55
  go_wp2
  go_loopw [5, 10] (fun q i wr => ∃ k : Nat, k ≤ n ∧ i = .int .i64 (k : Nat) ∧ q = .int .i64 0 ∧ Holds e wr R) (fun _ i _ => n - (intOf i).toNat)
  case atStart => exact ⟨0, by omega, rfl, rfl, H⟩
  case round =>
    obtain ⟨k, hk, rfl, rfl, HH⟩ := hrel
    by_cases hlt : k < n
    · obtain ⟨g, o, rfl⟩ := hsome (by omega)
      have hz : xs[k]? = some (xs.getD k 0) := by simp [List.getD, List.getElem?_eq_getElem (show k < xs.length by omega)]
      have hcx : wr.cell? ⟨g, o + k, none⟩ = some (.int .i64 (xs.getD k 0)) := by
        obtain ⟨b', o', h1, h2⟩ := (hrR wr HH).at (by omega)
        cases h1
        exact h2 k _ (ints_get hz)
      generalize xs.getD k 0 = z at *
      clear hz hxl hsome
      go_wp2
      go_roundw
      case rel => exact ⟨k + 1, by omega, by go_num, rfl, HH⟩
      case measure => simp [intOf]; omega
    · go_wp2
      go_ret
      exact ⟨rfl, HH⟩
theorem lruRemove_nil (H : Holds e w R) (xs : List Int) (v : Value) (n : Nat) (hn : n ≤ 1000000) (hrR : ∀ w', Holds e w' R → Reads w' v 1 n (ints xs)) :
    Calls Try.prog 60 #[.pointer none, v] w (Ret e (.int .i64 0) R) := by
  obtain ⟨hxl, a, c, rfl, hsome⟩ := reads_ints_at (hrR w H)
  go_enter Try.func60, Try.ntmps60
  go_wp2
  go_loopw [5, 10] (fun q i wr => ∃ k : Nat, k ≤ n ∧ i = .int .i64 (k : Nat) ∧ q = .int .i64 0 ∧ Holds e wr R) (fun _ i _ => n - (intOf i).toNat)
  case atStart => exact ⟨0, by omega, rfl, rfl, H⟩
  case round =>
    obtain ⟨k, hk, rfl, rfl, HH⟩ := hrel
    by_cases hlt : k < n
    · obtain ⟨g, o, rfl⟩ := hsome (by omega)
      have hz : xs[k]? = some (xs.getD k 0) := by simp [List.getD, List.getElem?_eq_getElem (show k < xs.length by omega)]
      have hcx : wr.cell? ⟨g, o + k, none⟩ = some (.int .i64 (xs.getD k 0)) := by
        obtain ⟨b', o', h1, h2⟩ := (hrR wr HH).at (by omega)
        cases h1
        exact h2 k _ (ints_get hz)
      generalize xs.getD k 0 = z at *
      clear hz hxl hsome
      go_wp2
      go_roundw
      case rel => exact ⟨k + 1, by omega, by go_num, rfl, HH⟩
      case measure => simp [intOf]; omega
    · go_wp2
      go_ret
      exact ⟨rfl, HH⟩
end
end Go.Proofs.Ytfjdgjdkpmljkaa
