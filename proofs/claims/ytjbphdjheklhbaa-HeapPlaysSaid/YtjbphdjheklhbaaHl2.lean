/-
  A heap's blocks: taking and freeing as functions on lists; no two free blocks lie side by side. No program in sight.
-/
import Derived.Test.YtjbphdjheklhbaaHl
namespace Go.Proofs.Ytjbphdjheklhbaa
open Go.RowKit

def allocL : List BlkS → Nat → List BlkS
  | [], _ => []
  | b :: l, need => if fits need b then ⟨b.o, need, true⟩ :: (rest b need ++ l) else b :: allocL l need
theorem allocL_none {l : List BlkS} {need : Nat} (h : l.find? (fits need) = none) : allocL l need = l := by
  induction l with
  | nil => rfl
  | cons b l ih =>
    have h1 := List.find?_eq_none.1 h b (by simp)
    unfold allocL
    rw [if_neg h1, ih]
    exact List.find?_eq_none.2 fun x hx => List.find?_eq_none.1 h x (List.mem_cons_of_mem _ hx)
theorem allocL_some {l : List BlkS} {need : Nat} {b : BlkS} (h : l.find? (fits need) = some b) : ∃ l1 l2, l = l1 ++ b :: l2 ∧ b.used = false ∧ need ≤ b.size ∧ allocL l need = l1 ++ ⟨b.o, need, true⟩ :: (rest b need ++ l2) := by
  induction l with
  | nil => cases h
  | cons c l ih =>
    by_cases hc : fits need c = true
    · rw [List.find?_cons_of_pos hc] at h
      cases h
      have hc' := hc
      unfold fits at hc'
      simp at hc'
      refine ⟨[], l, rfl, hc'.1, hc'.2, ?_⟩
      unfold allocL
      rw [if_pos hc]; rfl
    · rw [List.find?_cons_of_neg hc] at h
      obtain ⟨l1, l2, h1, h2, h3, h4⟩ := ih h
      refine ⟨c :: l1, l2, by rw [h1]; rfl, h2, h3, ?_⟩
      unfold allocL
      rw [if_neg hc, h4]; rfl

def mergeN (x : BlkS) : List BlkS → List BlkS
  | y :: r => if y.used then x :: y :: r else ⟨x.o, x.size + y.size, false⟩ :: r
  | [] => [x]
def freeL (p : BlkS → Bool) : List BlkS → List BlkS
  | [] => []
  | [c] => if p c then [⟨c.o, c.size, false⟩] else [c]
  | c :: b :: l => if p c then mergeN ⟨c.o, c.size, false⟩ (b :: l) else if p b && !c.used then mergeN ⟨c.o, c.size + b.size, false⟩ l else c :: freeL p (b :: l)
theorem freeL_cons (p : BlkS → Bool) (c : BlkS) (l : List BlkS) : freeL p (c :: l) = if p c then mergeN ⟨c.o, c.size, false⟩ l else match l with
    | b :: l' => if p b && !c.used then mergeN ⟨c.o, c.size + b.size, false⟩ l' else c :: freeL p (b :: l')
    | [] => [c] := by
  cases l with
  | nil => unfold freeL mergeN; rfl
  | cons b l => conv => lhs; unfold freeL

theorem next_succ (c : BlkS) (l : List BlkS) (i : Nat) : nextFree (c :: l) (i + 1) = nextFree l i := by unfold nextFree; simp
theorem prev_succ (c : BlkS) (l : List BlkS) (i : Nat) : prevFree (c :: l) (i + 2) = prevFree l (i + 1) := by unfold prevFree; simp
theorem prev_one (c : BlkS) (l : List BlkS) : prevFree (c :: l) 1 = if c.used then none else some c := by unfold prevFree; simp
theorem mergeN_parts (x : BlkS) (r : List BlkS) (hu : x.used = false) : ∃ ms l2, r = ms ++ l2 ∧ (∀ o hi, Lay o r hi → Lay o ms (o + nextFree (x :: r) 0)) ∧ mergeN x r = ⟨x.o, x.size + nextFree (x :: r) 0, false⟩ :: l2 := by
  cases r with
  | nil => exact ⟨[], [], rfl, fun o hi h => by simp [nextFree, Lay], by obtain ⟨a, b, c⟩ := x; simp only at hu; subst hu; simp [mergeN, nextFree]⟩
  | cons y r =>
    by_cases hy : y.used = true
    · refine ⟨[], y :: r, rfl, fun o hi h => by simp [nextFree, hy, Lay], ?_⟩
      obtain ⟨a, b, c⟩ := x; simp only at hu; subst hu
      simp [mergeN, nextFree, hy]
    · refine ⟨[y], r, rfl, fun o hi h => ?_, ?_⟩
      · obtain ⟨h1, h2, h3, h4⟩ := h
        have e1 : nextFree (x :: y :: r) 0 = y.size := by simp [nextFree, hy]
        rw [e1]
        exact ⟨h1, h2, h3, rfl⟩
      · have e1 : nextFree (x :: y :: r) 0 = y.size := by simp [nextFree, hy]
        rw [e1]
        simp [mergeN, hy]
theorem next_head (x y : BlkS) (r : List BlkS) : nextFree (x :: r) 0 = nextFree (y :: r) 0 := by unfold nextFree; simp

/-- Freeing, as parts of the list. -/
theorem freeL_parts (p : BlkS → Bool) : ∀ (l : List BlkS) (i : Nat) (b : BlkS) (o hi : Nat), Lay o l hi → idxOf p l = some i → l[i]? = some b →
    ∃ l1 ms l2, l = l1 ++ (ms ++ l2) ∧ Lay (freeO l i b) ms (freeO l i b + freeZ l i b) ∧ 16 ≤ freeZ l i b ∧ freeL p l = l1 ++ ⟨freeO l i b, freeZ l i b, false⟩ :: l2 := by
  intro l
  induction l with
  | nil => intro i b o hi _ h _; simp [idxOf] at h
  | cons c l ih =>
    intro i b o hi hl hx hb
    obtain ⟨hl1, hl2, hl3, hl4⟩ := hl
    rw [freeL_cons]
    by_cases hc : p c = true
    · have hi0 : i = 0 := by
        unfold idxOf at hx
        rw [List.findIdx?_cons, hc] at hx
        simpa using hx.symm
      subst hi0
      simp at hb
      subst hb
      rw [if_pos hc]
      obtain ⟨ms, l2, h1, h2, h3⟩ := mergeN_parts ⟨c.o, c.size, false⟩ l rfl
      have e1 : freeO (c :: l) 0 c = c.o := by simp [freeO, prevFree]
      have e2 : freeZ (c :: l) 0 c = c.size + nextFree (c :: l) 0 := by simp [freeZ, prevFree]
      rw [next_head _ c] at h2 h3
      rw [e1, e2]
      refine ⟨[], c :: ms, l2, by rw [h1]; rfl, ⟨rfl, hl2, hl3, ?_⟩, by omega, h3⟩
      have := h2 _ _ hl4
      rw [hl1]
      rwa [Nat.add_assoc] at this
    · rw [if_neg hc]
      obtain ⟨i', hi', hx'⟩ : ∃ i', i = i' + 1 ∧ idxOf p l = some i' := by
        unfold idxOf at hx ⊢
        rw [List.findIdx?_cons] at hx
        simp [hc] at hx
        obtain ⟨j, hj, rfl⟩ := hx
        exact ⟨j, rfl, hj⟩
      subst hi'
      have hb' : l[i']? = some b := by simpa using hb
      have hpb : p b = true := by
        unfold idxOf at hx'
        rw [List.findIdx?_eq_some_iff_getElem] at hx'
        obtain ⟨h1, h2, _⟩ := hx'
        obtain ⟨_, h4⟩ := List.getElem?_eq_some_iff.1 hb'
        rw [h4] at h2
        exact h2
      cases l with
      | nil => simp at hb'
      | cons d l' =>
        dsimp only
        by_cases hd : p d = true
        · have hi0 : i' = 0 := by
            unfold idxOf at hx'
            rw [List.findIdx?_cons, hd] at hx'
            simpa using hx'.symm
          subst hi0
          simp at hb'
          subst hb'
          obtain ⟨hd1, hd2, hd3, hd4⟩ := hl4
          by_cases hcu : c.used = true
          · rw [if_neg (by simp [hcu])]
            obtain ⟨l1, ms, l2, h1, h2, h3, h4⟩ := ih 0 d _ _ ⟨hd1, hd2, hd3, hd4⟩ hx' (by simp)
            have e1 : freeO (c :: d :: l') 1 d = freeO (d :: l') 0 d := by simp [freeO, prevFree, hcu]
            have e2 : freeZ (c :: d :: l') 1 d = freeZ (d :: l') 0 d := by
              have := next_succ c (d :: l') 0
              unfold freeZ
              rw [prev_one, this]
              simp [prevFree, hcu]
            rw [show 0 + 1 = 1 by rfl, e1, e2]
            exact ⟨c :: l1, ms, l2, by rw [h1]; rfl, h2, h3, by rw [h4]; rfl⟩
          · rw [if_pos (by simp [hd, hcu])]
            obtain ⟨ms, l2, h1, h2, h3⟩ := mergeN_parts ⟨c.o, c.size + d.size, false⟩ l' rfl
            rw [next_head _ d] at h2 h3
            have e1 : freeO (c :: d :: l') 1 d = c.o := by simp [freeO, prevFree, hcu]
            have e2 : freeZ (c :: d :: l') 1 d = c.size + d.size + nextFree (d :: l') 0 := by
              have := next_succ c (d :: l') 0
              unfold freeZ
              rw [prev_one, this]
              simp [hcu]
              omega
            rw [show 0 + 1 = 1 by rfl, e1, e2]
            refine ⟨[], c :: d :: ms, l2, by rw [h1]; rfl, ⟨rfl, hl2, hl3, by omega, hd2, hd3, ?_⟩, by omega, h3⟩
            have := h2 _ _ hd4
            rw [hl1]
            have e3 : o + (c.size + d.size + nextFree (d :: l') 0) = o + c.size + d.size + nextFree (d :: l') 0 := by omega
            rw [e3]
            exact this
        · rw [if_neg (by simp [hd])]
          obtain ⟨i2, hi2⟩ : ∃ i2, i' = i2 + 1 := by
            unfold idxOf at hx'
            rw [List.findIdx?_cons] at hx'
            simp [hd] at hx'
            obtain ⟨j, _, rfl⟩ := hx'
            exact ⟨j, rfl⟩
          subst hi2
          obtain ⟨l1, ms, l2, h1, h2, h3, h4⟩ := ih _ b _ _ hl4 hx' hb'
          have e0 : prevFree (c :: d :: l') (i2 + 1 + 1) = prevFree (d :: l') (i2 + 1) := prev_succ _ _ _
          have e1 : freeO (c :: d :: l') (i2 + 1 + 1) b = freeO (d :: l') (i2 + 1) b := by unfold freeO; rw [e0]
          have e2 : freeZ (c :: d :: l') (i2 + 1 + 1) b = freeZ (d :: l') (i2 + 1) b := by unfold freeZ; rw [e0, next_succ]
          rw [e1, e2]
          exact ⟨c :: l1, ms, l2, by rw [h1]; rfl, h2, h3, by rw [h4]; rfl⟩
end Go.Proofs.Ytjbphdjheklhbaa
