/-
  Package heap: a heap in a flat memory, by its blocks: the calls' contracts.
-/
import Derived.Test.YtjbphdjheklhbaaHl2
namespace Go.Proofs.Ytjbphdjheklhbaa
open Go.RowKit

/-- The heap in block h over the model in block m: its blocks. -/
def heapA (h m base size n : Nat) (l : List BlkS) : HP := exh fun M : List Pg => grp [pur (IsH n M base size l), pts h (hpObj m base size), modH m M]
theorem idx_nonfree {p : BlkS → Bool} {l : List BlkS} (h : idxOf p l = none) : freeL p l = l := by
  induction l with
  | nil => rfl
  | cons c l ih =>
    unfold idxOf at h
    rw [List.findIdx?_eq_none_iff] at h
    have hc := h c (by simp)
    have ih' := ih (by unfold idxOf; rw [List.findIdx?_eq_none_iff]; exact fun x hx => h x (List.mem_cons_of_mem _ hx))
    rw [freeL_cons, if_neg (by simp [hc])]
    cases l with
    | nil => rfl
    | cons d l' =>
      dsimp only
      rw [if_neg (by simp [h d (by simp)]), ih']
theorem IsH.fit {n : Nat} {M : List Pg} {base size : Nat} {l : List BlkS} (h : IsH n M base size l) : ∀ b ∈ l, b.o + b.size ≤ size ∧ b.size % 16 = 0 := fun b hb => by have := h.lay.mem hb; omega
theorem IsH.alloc {n : Nat} {M : List Pg} {base size need : Nat} {l : List BlkS} (h : IsH n M base size l) (h1 : 16 ≤ need) (h3 : need % 16 = 0) : IsH n (allocM M base need (l.find? (fits need))) base size (allocL l need) := by
  cases hf : l.find? (fits need) with
  | none => rw [allocL_none hf]; exact h
  | some b =>
    obtain ⟨l1, l2, e1, e2, e3, e4⟩ := allocL_some hf
    rw [e4]
    subst e1
    exact h.take h1 e3 h3
theorem IsH.free {n : Nat} {M : List Pg} {base size : Nat} {l : List BlkS} (h : IsH n M base size l) (p : BlkS → Bool) : IsH n (freeM M base l (idxOf p l)) base size (freeL p l) := by
  cases hx : idxOf p l with
  | none => rw [idx_nonfree hx]; exact h
  | some i =>
    have hi : i < l.length := by
      unfold idxOf at hx
      rw [List.findIdx?_eq_some_iff_getElem] at hx
      exact hx.1
    obtain ⟨l1, ms, l2, e1, e2, e3, e4⟩ := freeL_parts p l i l[i] _ _ h.lay hx (List.getElem?_eq_getElem hi)
    rw [e4]
    have e5 : freeM M base l (some i) = wrb M (base + freeO l i l[i]) (le 8 (freeZ l i l[i])) := by
      unfold freeM; dsimp only; rw [List.getElem?_eq_getElem hi]
    rw [e5]
    have h' : IsH n M base size (l1 ++ (ms ++ l2)) := e1 ▸ h
    exact h'.merge e2 e3
theorem IsH.freeFit {n : Nat} {M : List Pg} {base size : Nat} {l : List BlkS} (h : IsH n M base size l) : ∀ (i : Nat) b, l[i]? = some b → freeO l i b + 8 ≤ size ∧ freeZ l i b ≤ 65536 := by
  intro i b hb
  have hs := h.small
  obtain ⟨hi, he⟩ := List.getElem?_eq_some_iff.1 hb
  have hx : idxOf (fun x => decide (x.o = b.o)) l = some i := by
    refine idx_stop hb (fun j y hj hy => ?_) (by simp)
    have key : ∀ (l : List BlkS) (o hi : Nat), Lay o l hi → ∀ (i j : Nat) (x y : BlkS), j < i → l[i]? = some x → l[j]? = some y → y.o < x.o := by
      intro l
      induction l with
      | nil => intro o hi _ i j x y _ h1; simp at h1
      | cons c l ih =>
        intro o hi hl i j x y hij h1 h2
        obtain ⟨p1, p2, p3, p4⟩ := hl
        cases i with
        | zero => omega
        | succ i =>
          simp at h1
          cases j with
          | zero =>
            simp at h2
            subst h2
            have := p4.mem (List.mem_of_getElem? h1)
            omega
          | succ j => exact ih _ _ p4 i j x y (by omega) h1 (by simpa using h2)
    have := key _ _ _ h.lay i j b y hj hb hy
    simp; omega
  obtain ⟨l1, ms, l2, e1, e2, e3, _⟩ := freeL_parts _ l i b _ _ h.lay hx hb
  have hl := h.lay
  rw [e1] at hl
  obtain ⟨mid, p1, p2⟩ := Lay.app.1 hl
  obtain ⟨mid2, p3, p4⟩ := Lay.app.1 p2
  cases ms with
  | nil => have : freeO l i b = freeO l i b + freeZ l i b := e2; omega
  | cons c ms =>
    obtain ⟨q1, q2, q3, q4⟩ := e2
    obtain ⟨r1, r2, r3, r4⟩ := p3
    have uniq : ∀ (ms : List BlkS) (a c d : Nat), Lay a ms c → Lay a ms d → c = d := by
      intro ms
      induction ms with
      | nil => intro a c d h1 h2; exact (show a = c from h1).symm.trans h2
      | cons y ms ih => intro a c d h1 h2; exact ih _ _ _ h1.2.2.2 h2.2.2.2
    have hm : mid = freeO l i b := by omega
    rw [← hm] at q4
    have := uniq _ _ _ _ r4 q4
    have := p4.le
    have := r4.le
    omega
theorem IsH.new {n : Nat} {M : List Pg} {base size : Nat} (F : Fl n M) (ht : base + size ≤ 4096 * n) (hs : size ≤ 65536) (h16 : 16 ≤ size) (hm : size % 16 = 0) : IsH n (wrb M base (le 8 size)) base size [⟨0, size, false⟩] := by
  refine ⟨F.wrb _ _, ht, hs, ⟨rfl, h16, hm, by simp [Lay]⟩, ?_⟩
  intro b hb
  have : b = ⟨0, size, false⟩ := by simpa using hb
  subst this
  show hdW _ (base + 0) = size + 0
  rw [Nat.add_zero, Nat.add_zero]
  exact F.hd_same (by omega) (by omega)

section
variable {e : Env} {w : World} {R : List HP} {m n h base size : Nat} {l : List BlkS}
theorem heap_open (H : Holds e w (heapA h m base size n l :: R)) : ∃ M, IsH n M base size l ∧ Holds e w (pts h (hpObj m base size) :: modH m M :: R) := by
  obtain ⟨M, h⟩ := Holds.exE H
  have h2 := h.ungrp
  exact ⟨M, h2.purE, h2.drop⟩
theorem heap_close {M : List Pg} (hI : IsH n M base size l) (H : Holds e w (pts h (hpObj m base size) :: modH m M :: R)) : Holds e w (heapA h m base size n l :: R) :=
  Holds.mkExh M (Holds.mkGrp (L := [pur _, pts _ _, modH _ _]) (Holds.mkPur hI H))
theorem hAlloc (k : Nat) (hk1 : 1 ≤ k) (hk2 : k ≤ 65528) (H : Holds e w (heapA h m base size n l :: R)) :
    Calls Try.prog 17 #[.pointer (some ⟨h, 0, none⟩), .int .i64 k] w (Ret e (allocV base (l.find? (fits (up16 (k + 8))))) (heapA h m base size n (allocL l (up16 (k + 8))) :: R)) := by
  obtain ⟨M, hI, H1⟩ := heap_open H
  obtain ⟨u1, u2, u3⟩ := up16_bd (n := k + 8) (by omega)
  exact retC (hpAlloc k hk1 hk2 hI.fl hI.top hI.small hI.blks hI.fit H1) fun w' h' => heap_close (hI.alloc (by omega) u3) h'
theorem hFree (a : Nat) (ha : a < 18446744073709551616) (H : Holds e w (heapA h m base size n l :: R)) :
    Calls Try.prog 16 #[.pointer (some ⟨h, 0, none⟩), .int .u64 a] w (Ret e (.int .i64 (freeE (idxOf (isAt base a) l))) (heapA h m base size n (freeL (isAt base a) l) :: R)) := by
  obtain ⟨M, hI, H1⟩ := heap_open H
  exact retC (hpFree a ha hI.fl hI.top hI.small hI.blks hI.freeFit H1) fun w' h' => heap_close (hI.free _) h'
theorem hBlocks (H : Holds e w (heapA h m base size n l :: R)) :
    Calls Try.prog 18 #[.pointer (some ⟨h, 0, none⟩)] w (RetEx e (fun v : Value => .tuple #[v, .int .i64 0]) (fun v => row v 53 3 l.length (l.flatMap (bcells base)) :: heapA h m base size n l :: R)) := by
  obtain ⟨M, hI, H1⟩ := heap_open H
  have hb := hI.top
  have hs := hI.fl.small
  have := hpBlocks (m := m) (M := M) (h := h) (R := R) (by omega) hI.small H1
  rw [hI.blks] at this
  exact this.mono fun en w' ⟨v, h1, h2⟩ => ⟨v, h1, (heap_close hI (h2.re 3 [1, 2, 0])).swap⟩
theorem hLeft (H : Holds e w (heapA h m base size n l :: R)) :
    Calls Try.prog 19 #[.pointer (some ⟨h, 0, none⟩)] w (Ret e (.tuple #[.int .i64 (leftS l), .int .i64 0]) (heapA h m base size n l :: R)) := by
  obtain ⟨M, hI, H1⟩ := heap_open H
  have hb := hI.top
  have hs := hI.fl.small
  have := hpLeft (m := m) (M := M) (h := h) (R := R) (by omega) hI.small H1
  rw [hI.blks] at this
  exact retC this fun w' h' => heap_close hI h'
theorem hNew {M : List Pg} (F : Fl n M) (ht : base + size ≤ 4096 * n) (hm : mayH base size = true) (H : Holds e w (modH m M :: R)) :
    Calls Try.prog 15 #[memV m, .int .u64 base, .int .i64 size] w
      (RetEx e (fun h : Nat => .tuple #[.pointer (some ⟨h, 0, none⟩), .int .i64 0]) (fun h => heapA h m base size n [⟨0, size, false⟩] :: R)) := by
  obtain ⟨h1, h2, h3, h4, h5⟩ := mayH_ok hm
  have hs := F.small
  have e0 : chk M base 8 2 = 0 := F.chk0 (k := 8) (.inr rfl) (by omega) (by omega) (by omega)
  have := hpNew (m := m) (M := M) (R := R) (base := base) (size := size) (by omega) hm H
  rw [e0, F.sto (by rw [le_length]; omega) (by rw [le_length]; omega) (by rw [le_length]; omega)] at this
  refine this.mono fun en w' ⟨h, h1, h2⟩ => ⟨h, h1, heap_close (IsH.new F ht (by omega) (by omega) (by omega)) h2⟩
end
end Go.Proofs.Ytjbphdjheklhbaa
