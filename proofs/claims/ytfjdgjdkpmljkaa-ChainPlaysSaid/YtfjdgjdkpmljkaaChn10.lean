/-
  The law of layer 3: same.
-/
import Derived.Test.YtfjdgjdkpmljkaaChn8
import Derived.Test.YtfjdgjdkpmljkaaRef3
namespace Go.Proofs.Ytfjdgjdkpmljkaa
open Go.RowKit

theorem nats_length (l : List Nat) : (nats l).length = l.length := List.length_map _
theorem nats_mem {l : List Nat} {x : Int} : x ∈ nats l ↔ 0 ≤ x ∧ x.toNat ∈ l := by
  simp only [nats, List.mem_map]
  constructor
  · rintro ⟨a, h, rfl⟩; exact ⟨by omega, by simpa using h⟩
  · rintro ⟨h1, h2⟩; exact ⟨x.toNat, h2, by omega⟩
theorem nats_getD {l : List Nat} {k : Nat} (hk : k < l.length) : (nats l)[k]? = some ((l.getD k 0 : Nat) : Int) := by
  simp [nats, List.getD, List.getElem?_eq_getElem hk]
theorem atI_nats {A B : List Nat} {y : Nat} (h : y ∉ A) : atI (nats (A ++ y :: B)) (y : Int) = A.length := by
  refine atI_some (by simp [nats_length]) ?_ ?_
  · simp [nats]
  · intro j hj
    simp only [List.getD, nats_getD (show j < (A ++ y :: B).length by simp; omega), Option.getD_some]
    simp only [List.getElem?_append_left hj, List.getElem?_eq_getElem hj, Option.getD_some]
    intro e
    exact h (by rw [show y = A[j] by omega]; exact List.getElem_mem hj)

section
variable {e : Env} {w : World} {R : List HP} {b n g o c : Nat} {L : List Nat}


def At3 (v : Value) (L : List Nat) (x i : Int) : Prop := ∀ w', Reads w' v 1 L.length (ints (nats L)) → Calls Try.prog 61 #[v, .int .i64 x] w' (Quiet w' (.int .i64 i))
theorem At3.mk {v : Value} {x i : Int} (hl : L.length ≤ 4096) (h : atI (nats L) x = i) : At3 v L x i := fun w' hr => by
  have := at3_any (w := w') (nats L) v x (by rw [nats_length]; omega) (by rw [nats_length]; exact hr)
  rw [h] at this
  exact this
def Nw3 (b n : Nat) (L : List Nat) (x i : Int) (ok : Bool) : Prop := ∀ (e : Env) (R : List HP) (w' : World), Holds e w' (chn b n L :: R) → Calls Try.prog 75 #[.pointer (some ⟨b, 0, none⟩), .int .i64 x] w' (Quiet w' (.tuple #[.int .i64 i, .bool ok]))
def Ol3 (b n : Nat) (L : List Nat) (i : Int) (ok : Bool) : Prop := ∀ (e : Env) (R : List HP) (w' : World), Holds e w' (chn b n L :: R) → Calls Try.prog 34 #[.pointer (some ⟨b, 0, none⟩)] w' (Quiet w' (.tuple #[.int .i64 i, .bool ok]))
def Hs3 (b n : Nat) (L : List Nat) (x : Int) (ok : Bool) : Prop := ∀ (e : Env) (R : List HP) (w' : World), Holds e w' (chn b n L :: R) → Calls Try.prog 48 #[.pointer (some ⟨b, 0, none⟩), .int .i64 x] w' (Quiet w' (.bool ok))
theorem Nw3.no {x : Int} (h : ¬ (0 ≤ x ∧ x.toNat ∈ L)) : Nw3 b n L x 0 false := fun _ _ w' H => by
  have := cNewer H x
  rw [if_neg h] at this
  exact this
theorem Nw3.yes {A B : List Nat} {y : Nat} (h : y ∉ A) (hl : L = A ++ y :: B) : Nw3 b n L y (hd0 B) (ne0 B) := fun _ _ w' H => by
  have := cNewer H y
  rw [if_pos (by simp [hl]), hl, Int.toNat_natCast, nxt_app h, ne0_eq] at this
  exact this
theorem Ol3.mk : Ol3 b n L (hd0 L) (ne0 L) := fun _ _ w' H => by
  have := cOldest H
  rw [ne0_eq] at this
  exact this
theorem Hs3.mk {x : Int} {ok : Bool} (h : decide (0 ≤ x ∧ x.toNat ∈ L) = ok) : Hs3 b n L x ok := fun _ _ w' H => by
  have := cHas H x
  rw [h] at this
  exact this

set_option maxRecDepth 100000 in
set_option maxHeartbeats 4000000 in
theorem same_nil {v : Value} (H : Holds e w (chn b n [] :: row v 3 1 ([] : List Nat).length (ints (nats [])) :: R)) (x : Int) :
    Calls Try.prog 52 #[.pointer (some ⟨b, 0, none⟩), v, .int .i64 x] w (Ret e (.bool true) (chn b n [] :: row v 3 1 ([] : List Nat).length (ints (nats [])) :: R)) := by
  obtain ⟨a, c, rfl⟩ := row_shape H.drop
  have HAT : Hid (At3 (.slice a 0 c) [] x (-1)) := Lib.hid (At3.mk (by simp) (if_neg (by simp [nats])))
  have HNW : Hid (Nw3 b n [] x 0 false) := Lib.hid (Nw3.no (by simp))
  have HOL : Hid (Ol3 b n [] 0 false) := Lib.hid Ol3.mk
  have HHS : Hid (Hs3 b n [] x false) := Lib.hid (Hs3.mk (by simp))
  have hl512 : (nats []).length ≤ 512 := by simp [nats]
  rw [List.length_nil] at *
  go_enter Try.func52, Try.ntmps52
  go_wp2_with fail
  refine (all_any H (-1)).mono ?_
  rw [takeM_all (by omega)]
  rintro e w1 ⟨v5, rfl, H1⟩
  obtain ⟨a5, c5, rfl⟩ := row_shape H1
  have H2 := H1.imp Sat.sw2
  clear H1
  skip
  go_wp2_with fail
  refine ((ints_rows hl512 (by rw [nats_length]; exact H2)).1).mono ?_
  rw [nats_length]
  rintro e w2 ⟨rfl, H3⟩
  go_wp2_with fail
  refine (retQ (cLen (H3.take (Take.there _ (Take.there _ (Take.here _ _))))) H3).mono ?_
  rintro e w3 ⟨rfl, H4⟩
  go_wp2_with fail
  refine (retQ (HAT.out _ (row.reads H4.drop)) H4).mono ?_
  rintro e w4 ⟨rfl, H5⟩
  go_wp2_with fail
  refine (retQ (HNW.out _ _ _ (H5.take (Take.there _ (Take.there _ (Take.here _ _))))) H5).mono ?_
  rintro e w5 ⟨rfl, H6⟩
  go_wp2_with fail
  refine (retQ (HOL.out _ _ _ (H6.take (Take.there _ (Take.there _ (Take.here _ _))))) H6).mono ?_
  rintro e w6 ⟨rfl, H7⟩
  go_wp2_with fail
  refine (retQ (HHS.out _ _ _ (H7.take (Take.there _ (Take.there _ (Take.here _ _))))) H7).mono ?_
  rintro e w7 ⟨rfl, H8⟩
  go_wp2
  go_ret
  exact ⟨rfl, H8.drop.swap⟩

theorem row_cell {cap k : Nat} (H : Holds e w (row (.slice (some ⟨g, 0, none⟩) L.length cap) 3 1 L.length (ints (nats L)) :: R)) (hk : k < L.length) : w.cell? ⟨g, k, none⟩ = some (.int .i64 ((L.getD k 0 : Nat) : Int)) := by
  obtain ⟨b', o', h1, h2⟩ := (row.reads H).at (by omega)
  cases h1
  have := h2 k _ (ints_get (nats_getD hk))
  rwa [Nat.zero_add] at this

set_option maxRecDepth 100000 in
set_option maxHeartbeats 4000000 in
theorem same_no {v : Value} (H : Holds e w (chn b n L :: row v 3 1 L.length (ints (nats L)) :: R)) (hL : L.length ≤ 512) (z : Nat) (L' : List Nat) (hz : L = z :: L') (x : Int) (hx : ¬ (0 ≤ x ∧ x.toNat ∈ L)) :
    Calls Try.prog 52 #[.pointer (some ⟨b, 0, none⟩), v, .int .i64 x] w (Ret e (.bool true) (chn b n L :: row v 3 1 L.length (ints (nats L)) :: R)) := by
  have hl0 : 0 < L.length := by rw [hz]; simp
  obtain ⟨_, ⟨_, h⟩ | ⟨g, cap, cur, rfl, _⟩⟩ := row.open H.drop
  · omega
  have HAT : Hid (At3 (.slice (some ⟨g, 0, none⟩) L.length cap) L x (-1)) := Lib.hid (At3.mk (by omega) (if_neg (fun h => hx (nats_mem.1 h))))
  have HNW : Hid (Nw3 b n L x 0 false) := Lib.hid (Nw3.no hx)
  have HOL : Hid (Ol3 b n L (z : Int) true) := Lib.hid (by have := Ol3.mk (b := b) (n := n) (L := L); rw [hz] at this ⊢; exact this)
  have HHS : Hid (Hs3 b n L x false) := Lib.hid (Hs3.mk (decide_eq_false hx))
  have HC0 : Hid (∀ (w' : World) (e : Env) (R : List HP), Holds e w' (row (.slice (some ⟨g, 0, none⟩) L.length cap) 3 1 L.length (ints (nats L)) :: R) → w'.cell? ⟨g, 0, none⟩ = some (.int .i64 (z : Int))) := Lib.hid fun w' e R h => by
    rw [row_cell h (by omega), hz]; rfl
  have hl512 : (nats L).length ≤ 512 := by rw [nats_length]; omega
  have hl1 : (0 : Int) < (L.length : Int) := by omega
  clear hz hx
  go_enter Try.func52, Try.ntmps52
  go_wp2_with fail
  refine (all_any H (-1)).mono ?_
  rw [takeM_all (by omega)]
  rintro e w1 ⟨v5, rfl, H1⟩
  obtain ⟨a5, c5, rfl⟩ := row_shape H1
  have H2 := H1.imp Sat.sw2
  clear H1
  skip
  go_wp2_with fail
  refine ((ints_rows hl512 (by rw [nats_length]; exact H2)).1).mono ?_
  rw [nats_length]
  rintro e w2 ⟨rfl, H3⟩
  go_wp2_with fail
  refine (retQ (cLen (H3.take (Take.there _ (Take.there _ (Take.here _ _))))) H3).mono ?_
  rintro e w3 ⟨rfl, H4⟩
  go_wp2_with fail
  refine (retQ (HAT.out _ (row.reads H4.drop)) H4).mono ?_
  rintro e w4 ⟨rfl, H5⟩
  go_wp2_with fail
  refine (retQ (HNW.out _ _ _ (H5.take (Take.there _ (Take.there _ (Take.here _ _))))) H5).mono ?_
  rintro e w5 ⟨rfl, H6⟩
  go_wp2_with fail
  refine (retQ (HOL.out _ _ _ (H6.take (Take.there _ (Take.there _ (Take.here _ _))))) H6).mono ?_
  rintro e w6 ⟨rfl, H7⟩
  go_wp2_with fail
  refine (retQ (HHS.out _ _ _ (H7.take (Take.there _ (Take.there _ (Take.here _ _))))) H7).mono ?_
  rintro e w7 ⟨rfl, H8⟩
  have hcz := HC0.out _ _ _ H8.drop
  go_wp2
  go_ret
  exact ⟨rfl, H8.drop.swap⟩

set_option maxRecDepth 100000 in
set_option maxHeartbeats 4000000 in
theorem same_last {v : Value} (H : Holds e w (chn b n L :: row v 3 1 L.length (ints (nats L)) :: R)) (hL : L.length ≤ 512) (z : Nat) (L' : List Nat) (hz : L = z :: L') {y : Nat} {A : List Nat} (hyA : y ∉ A) (hA : L = A ++ [y]) :
    Calls Try.prog 52 #[.pointer (some ⟨b, 0, none⟩), v, .int .i64 y] w (Ret e (.bool true) (chn b n L :: row v 3 1 L.length (ints (nats L)) :: R)) := by
  have hl0 : L.length = A.length + 1 := by rw [hA]; simp
  obtain ⟨_, ⟨_, h⟩ | ⟨g, cap, cur, rfl, _⟩⟩ := row.open H.drop
  · omega
  have HAT : Hid (At3 (.slice (some ⟨g, 0, none⟩) L.length cap) L y A.length) := Lib.hid (At3.mk (by omega) (by rw [hA]; exact atI_nats hyA))
  have HNW : Hid (Nw3 b n L y 0 false) := Lib.hid (Nw3.yes hyA hA)
  have HOL : Hid (Ol3 b n L (z : Int) true) := Lib.hid (by have := Ol3.mk (b := b) (n := n) (L := L); rw [hz] at this ⊢; exact this)
  have HHS : Hid (Hs3 b n L y true) := Lib.hid (Hs3.mk (by simp [hA]))
  have HC0 : Hid (∀ (w' : World) (e : Env) (R : List HP), Holds e w' (row (.slice (some ⟨g, 0, none⟩) L.length cap) 3 1 L.length (ints (nats L)) :: R) → w'.cell? ⟨g, 0, none⟩ = some (.int .i64 (z : Int))) := Lib.hid fun w' e R h => by
    rw [row_cell h (by omega), hz]; rfl
  have hl512 : (nats L).length ≤ 512 := by rw [nats_length]; omega
  have hl1 : (0 : Int) < (L.length : Int) := by omega
  have hq : ((A.length : Int) == (L.length : Int) - 1) = true := by simp; omega
  clear hl0
  generalize A.length = i at *
  clear hz hA hyA
  go_enter Try.func52, Try.ntmps52
  go_wp2_with fail
  refine (all_any H (-1)).mono ?_
  rw [takeM_all (by omega)]
  rintro e w1 ⟨v5, rfl, H1⟩
  obtain ⟨a5, c5, rfl⟩ := row_shape H1
  have H2 := H1.imp Sat.sw2
  clear H1
  skip
  go_wp2_with fail
  refine ((ints_rows hl512 (by rw [nats_length]; exact H2)).1).mono ?_
  rw [nats_length]
  rintro e w2 ⟨rfl, H3⟩
  go_wp2_with fail
  refine (retQ (cLen (H3.take (Take.there _ (Take.there _ (Take.here _ _))))) H3).mono ?_
  rintro e w3 ⟨rfl, H4⟩
  go_wp2_with fail
  refine (retQ (HAT.out _ (row.reads H4.drop)) H4).mono ?_
  rintro e w4 ⟨rfl, H5⟩
  go_wp2_with fail
  refine (retQ (HNW.out _ _ _ (H5.take (Take.there _ (Take.there _ (Take.here _ _))))) H5).mono ?_
  rintro e w5 ⟨rfl, H6⟩
  go_wp2_with fail
  refine (retQ (HOL.out _ _ _ (H6.take (Take.there _ (Take.there _ (Take.here _ _))))) H6).mono ?_
  rintro e w6 ⟨rfl, H7⟩
  go_wp2_with fail
  refine (retQ (HHS.out _ _ _ (H7.take (Take.there _ (Take.there _ (Take.here _ _))))) H7).mono ?_
  rintro e w7 ⟨rfl, H8⟩
  have hcz := HC0.out _ _ _ H8.drop
  go_wp2
  go_ret
  exact ⟨rfl, H8.drop.swap⟩

set_option maxRecDepth 100000 in
set_option maxHeartbeats 4000000 in
theorem same_mid {v : Value} (H : Holds e w (chn b n L :: row v 3 1 L.length (ints (nats L)) :: R)) (hL : L.length ≤ 512) (z : Nat) (L' : List Nat) (hz : L = z :: L') {y u : Nat} {A B : List Nat} (hyA : y ∉ A) (hA : L = A ++ y :: u :: B) :
    Calls Try.prog 52 #[.pointer (some ⟨b, 0, none⟩), v, .int .i64 y] w (Ret e (.bool true) (chn b n L :: row v 3 1 L.length (ints (nats L)) :: R)) := by
  have hl0 : L.length = A.length + 2 + B.length := by rw [hA]; simp; omega
  obtain ⟨_, ⟨_, h⟩ | ⟨g, cap, cur, rfl, _⟩⟩ := row.open H.drop
  · omega
  have HAT : Hid (At3 (.slice (some ⟨g, 0, none⟩) L.length cap) L y A.length) := Lib.hid (At3.mk (by omega) (by rw [hA]; exact atI_nats hyA))
  have HNW : Hid (Nw3 b n L y u true) := Lib.hid (Nw3.yes hyA hA)
  have HOL : Hid (Ol3 b n L (z : Int) true) := Lib.hid (by have := Ol3.mk (b := b) (n := n) (L := L); rw [hz] at this ⊢; exact this)
  have HHS : Hid (Hs3 b n L y true) := Lib.hid (Hs3.mk (by simp [hA]))
  have HC0 : Hid (∀ (w' : World) (e : Env) (R : List HP), Holds e w' (row (.slice (some ⟨g, 0, none⟩) L.length cap) 3 1 L.length (ints (nats L)) :: R) → w'.cell? ⟨g, 0, none⟩ = some (.int .i64 (z : Int)) ∧ w'.cell? ⟨g, A.length + 1, none⟩ = some (.int .i64 (u : Int))) := Lib.hid fun w' e R h => by
    refine ⟨by rw [row_cell h (by omega), hz]; rfl, ?_⟩
    rw [row_cell h (by omega), hA]
    simp [List.getD]
  have hl512 : (nats L).length ≤ 512 := by rw [nats_length]; omega
  have hl1 : (0 : Int) < (L.length : Int) := by omega
  have hq : ((A.length : Int) == (L.length : Int) - 1) = false := by simp; omega
  have hq2 : (A.length : Int) + 1 < (L.length : Int) := by omega
  clear hl0
  generalize A.length = i at *
  clear hz hA hyA
  go_enter Try.func52, Try.ntmps52
  go_wp2_with fail
  refine (all_any H (-1)).mono ?_
  rw [takeM_all (by omega)]
  rintro e w1 ⟨v5, rfl, H1⟩
  obtain ⟨a5, c5, rfl⟩ := row_shape H1
  have H2 := H1.imp Sat.sw2
  clear H1
  skip
  go_wp2_with fail
  refine ((ints_rows hl512 (by rw [nats_length]; exact H2)).1).mono ?_
  rw [nats_length]
  rintro e w2 ⟨rfl, H3⟩
  go_wp2_with fail
  refine (retQ (cLen (H3.take (Take.there _ (Take.there _ (Take.here _ _))))) H3).mono ?_
  rintro e w3 ⟨rfl, H4⟩
  go_wp2_with fail
  refine (retQ (HAT.out _ (row.reads H4.drop)) H4).mono ?_
  rintro e w4 ⟨rfl, H5⟩
  go_wp2_with fail
  refine (retQ (HNW.out _ _ _ (H5.take (Take.there _ (Take.there _ (Take.here _ _))))) H5).mono ?_
  rintro e w5 ⟨rfl, H6⟩
  go_wp2_with fail
  refine (retQ (HOL.out _ _ _ (H6.take (Take.there _ (Take.there _ (Take.here _ _))))) H6).mono ?_
  rintro e w6 ⟨rfl, H7⟩
  go_wp2_with fail
  refine (retQ (HHS.out _ _ _ (H7.take (Take.there _ (Take.there _ (Take.here _ _))))) H7).mono ?_
  rintro e w7 ⟨rfl, H8⟩
  obtain ⟨hcz, hcu⟩ := HC0.out _ _ _ H8.drop
  go_wp2
  go_ret
  exact ⟨rfl, H8.drop.swap⟩

theorem same_any {v : Value} (H : Holds e w (chn b n L :: row v 3 1 L.length (ints (nats L)) :: R)) (hL : L.length ≤ 512) (x : Int) :
    Calls Try.prog 52 #[.pointer (some ⟨b, 0, none⟩), v, .int .i64 x] w (Ret e (.bool true) (chn b n L :: row v 3 1 L.length (ints (nats L)) :: R)) := by
  cases hL0 : L with
  | nil => subst hL0; exact same_nil H x
  | cons z L' =>
    rw [← hL0]
    by_cases hx : 0 ≤ x ∧ x.toNat ∈ L
    · obtain ⟨y, rfl⟩ : ∃ y : Nat, x = (y : Int) := ⟨x.toNat, by omega⟩
      obtain ⟨A, B, hAB⟩ := List.append_of_mem hx.2
      rw [Int.toNat_natCast] at hAB
      have hyA : y ∉ A := by
        have hnd := (chn_facts H).1
        intro h
        rw [hAB, List.nodup_append] at hnd
        exact hnd.2.2 y h y (by simp) rfl
      cases B with
      | nil => exact same_last H hL z L' hL0 hyA hAB
      | cons u B => exact same_mid H hL z L' hL0 hyA hAB
    · exact same_no H hL z L' hL0 x hx
end
end Go.Proofs.Ytfjdgjdkpmljkaa
