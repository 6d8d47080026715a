/-
  Layer 47: the reference's Free, block by block, is the heap's. No program in sight.
-/
import Derived.Test.YtjbphdjheklhbaaHq2
namespace Go.Proofs.Ytjbphdjheklhbaa
open Go.RowKit

def isR (z : Int) (b : BlkS) : Bool := b.used && decide ((b.o : Int) + 8 = z)
def stepR (a : Nat) (O : List BlkS) (k : Nat) (b : BlkS) : List BlkS :=
  match O[O.length - 1]? with
  | some p => if p.used = false ∧ (b.used = false ∨ k = a) ∧ (k = a ∨ k = a + 1) then O.set (O.length - 1) ⟨p.o, p.size + b.size, false⟩ else O ++ [⟨b.o, b.size, b.used && !decide (k = a)⟩]
  | none => O ++ [⟨b.o, b.size, b.used && !decide (k = a)⟩]
/-- The blocks behind the first k rounds. -/
def outR (a : Nat) (l : List BlkS) : Nat → List BlkS
  | 0 => []
  | k + 1 => match l[k]? with
    | some b => stepR a (outR a l k) k b
    | none => outR a l k
/-- What stands ahead of the block that is freed, and what that is made. -/
def preR (l : List BlkS) (a : Nat) (b : BlkS) : List BlkS × BlkS := match prevFree l a with
  | some c => (l.take (a - 1), ⟨c.o, c.size + b.size, false⟩)
  | none => (l.take a, ⟨b.o, b.size, false⟩)

theorem outR_take {a : Nat} {l : List BlkS} : ∀ {k : Nat}, k ≤ a → k ≤ l.length → outR a l k = l.take k
  | 0, _, _ => rfl
  | k + 1, h, hl => by
    obtain ⟨b, hb⟩ : ∃ b, l[k]? = some b := ⟨_, List.getElem?_eq_getElem (by omega)⟩
    have ih := outR_take (a := a) (l := l) (k := k) (by omega) (by omega)
    unfold outR
    rw [hb, List.take_add_one, hb, ih]
    dsimp only [Option.toList]
    have e1 : (b.used && !decide (k = a)) = b.used := by
      have : ¬ k = a := by omega
      simp [this]
    unfold stepR
    split
    · rw [if_neg (by omega), e1]
    · rw [e1]
theorem getLast_app (A : List BlkS) (x : BlkS) : (A ++ [x])[(A ++ [x]).length - 1]? = some x := by simp
theorem set_app (A : List BlkS) (x y : BlkS) : (A ++ [x]).set ((A ++ [x]).length - 1) y = A ++ [y] := by
  rw [List.length_append, List.length_singleton, Nat.add_sub_cancel, List.set_append_right _ _ (Nat.le_refl _)]
  simp
theorem outR_at {a : Nat} {l : List BlkS} {b : BlkS} (hb : l[a]? = some b) : outR a l (a + 1) = (preR l a b).1 ++ [(preR l a b).2] := by
  have hl := (List.getElem?_eq_some_iff.1 hb).1
  unfold outR
  rw [hb, outR_take (Nat.le_refl _) (by omega)]
  dsimp only
  unfold stepR preR prevFree
  have hlen : (l.take a).length = a := by rw [List.length_take]; omega
  have e1 : (b.used && !decide (a = a)) = false := by simp
  rw [hlen, e1]
  by_cases h0 : a = 0
  · subst h0
    simp
  · rw [if_neg h0]
    obtain ⟨c, hc⟩ : ∃ c, l[a - 1]? = some c := ⟨_, List.getElem?_eq_getElem (by omega)⟩
    have hc2 : (l.take a)[a - 1]? = some c := by rw [List.getElem?_take, if_pos (by omega), hc]
    rw [hc2, hc]
    dsimp only
    have ht : l.take a = l.take (a - 1) ++ [c] := by
      have h1 : l.take ((a - 1) + 1) = l.take (a - 1) ++ [c] := by rw [List.take_add_one, hc]; rfl
      rwa [show a - 1 + 1 = a by omega] at h1
    cases hcu : c.used
    · rw [if_pos ⟨rfl, .inr rfl, .inl rfl⟩, if_neg (by decide)]
      dsimp only
      rw [ht]
      have h2 := set_app (l.take (a - 1)) c ⟨c.o, c.size + b.size, false⟩
      have h3 : (l.take (a - 1) ++ [c]).length - 1 = a - 1 := by rw [List.length_append, List.length_take, List.length_singleton]; omega
      rw [h3] at h2
      exact h2
    · rw [if_neg (by rintro ⟨h, _⟩; cases h), if_pos rfl]
theorem preR_free {l : List BlkS} {a : Nat} {b : BlkS} : (preR l a b).2.used = false := by
  unfold preR
  split <;> rfl
theorem outR_rest {a : Nat} {l : List BlkS} {b : BlkS} (hb : l[a]? = some b) : ∀ (k : Nat), a + 1 + k ≤ l.length → outR a l (a + 1 + k) = (preR l a b).1 ++ mergeN (preR l a b).2 ((l.drop (a + 1)).take k)
  | 0, _ => by rw [Nat.add_zero, outR_at hb]; rfl
  | k + 1, h => by
    obtain ⟨c, hc⟩ : ∃ c, l[a + 1 + k]? = some c := ⟨_, List.getElem?_eq_getElem (by omega)⟩
    have ih := outR_rest hb k (by omega)
    have hx := preR_free (l := l) (a := a) (b := b)
    have hd : (l.drop (a + 1))[k]? = some c := by rw [List.getElem?_drop, hc]
    rw [show a + 1 + (k + 1) = (a + 1 + k) + 1 by omega]
    unfold outR
    rw [hc, ih, List.take_add_one, hd]
    dsimp only [Option.toList]
    generalize preR l a b = q at *
    obtain ⟨A, x⟩ := q
    dsimp only at *
    cases k with
    | zero =>
      simp only [List.take_zero, List.nil_append, Nat.add_zero]
      unfold stepR mergeN
      dsimp only
      rw [getLast_app]
      dsimp only
      have e1 : (c.used && !decide (a + 1 = a)) = c.used := by simp
      cases hcu : c.used
      · rw [if_pos ⟨hx, .inl rfl, .inr rfl⟩, set_app]
        rfl
      · rw [if_neg (by rintro ⟨_, h | h, _⟩ <;> first | cases h | omega), if_pos rfl]
        rw [hcu] at e1
        rw [e1]
        obtain ⟨co, cs, cu⟩ := c
        simp only at hcu
        subst hcu
        simp
    | succ k =>
      have hne : ∃ y r, (l.drop (a + 1)).take (k + 1) = y :: r := by
        cases hq : (l.drop (a + 1)).take (k + 1) with
        | nil =>
          have := congrArg List.length hq
          rw [List.length_take, List.length_drop] at this
          simp at this
          omega
        | cons y r => exact ⟨y, r, rfl⟩
      obtain ⟨y, r, hyr⟩ := hne
      rw [hyr]
      have e1 : (c.used && !decide (a + 1 + (k + 1) = a)) = c.used := by
        have : ¬ a + 1 + (k + 1) = a := by omega
        simp [this]
      have e2 : mergeN x (y :: r ++ [c]) = mergeN x (y :: r) ++ [c] := by
        rw [List.cons_append, mergeN_cons, mergeN_cons]
        split <;> rfl
      rw [e2, ← List.append_assoc]
      generalize A ++ mergeN x (y :: r) = O
      unfold stepR
      rw [e1]
      split
      · rw [if_neg (by omega)]
      · rfl
theorem freeL_at {p : BlkS → Bool} : ∀ {l : List BlkS} {a : Nat} {b : BlkS}, l[a]? = some b → p b = true → (∀ (j : Nat) y, j < a → l[j]? = some y → p y = false) → freeL p l = (preR l a b).1 ++ mergeN (preR l a b).2 (l.drop (a + 1))
  | [], _, _, h, _, _ => by simp at h
  | c :: l, 0, b, h, hb, _ => by
    simp at h
    subst h
    rw [freeL_cons, if_pos hb]
    simp [preR, prevFree]
  | c :: [], a + 1, b, h, _, _ => by simp at h
  | c :: d :: l, 1, b, h, hb, h0 => by
    simp at h
    subst h
    have hc := h0 0 c (by omega) (by simp)
    rw [freeL_cons, if_neg (by simp [hc])]
    dsimp only
    unfold preR
    rw [prev_one]
    cases hcu : c.used
    · simp [hb]
    · have hd1 := freeL_cons p d l
      rw [if_pos hb] at hd1
      simp [hb, hd1]
  | c :: d :: l, a + 2, b, h, hb, h0 => by
    have hc := h0 0 c (by omega) (by simp)
    have hd := h0 1 d (by omega) (by simp)
    have ih := freeL_at (p := p) (l := d :: l) (a := a + 1) (b := b) (by simpa using h) hb (fun j y hj hy => h0 (j + 1) y (by omega) (by simpa using hy))
    rw [freeL_cons, if_neg (by simp [hc])]
    dsimp only
    rw [if_neg (by simp [hd]), ih]
    unfold preR
    rw [prev_succ]
    cases hpv : prevFree (d :: l) (a + 1) with
    | none => simp
    | some x => simp
theorem outR_free {p : BlkS → Bool} {l : List BlkS} {a : Nat} {b : BlkS} (hb : l[a]? = some b) (hp : p b = true) (h0 : ∀ (j : Nat) y, j < a → l[j]? = some y → p y = false) : outR a l l.length = freeL p l := by
  have hl := (List.getElem?_eq_some_iff.1 hb).1
  have := outR_rest hb (l.length - (a + 1)) (by omega)
  rw [show a + 1 + (l.length - (a + 1)) = l.length by omega, List.take_of_length_le (by rw [List.length_drop]; omega)] at this
  rw [this, freeL_at hb hp h0]
theorem stepR_len {a k : Nat} {O : List BlkS} {b : BlkS} : (stepR a O k b).length ≤ O.length + 1 := by
  unfold stepR
  split
  · split <;> simp
  · simp
theorem rcells_set {l : List BlkS} {i : Nat} {p : BlkS} (hp : l[i]? = some p) (z : Nat) : (l.flatMap rcells).set (i * 3 + 1) (.int .i64 (z : Int)) = (l.set i ⟨p.o, z, p.used⟩).flatMap rcells := by
  induction l generalizing i with
  | nil => simp at hp
  | cons x l ih =>
    cases i with
    | zero =>
      simp at hp
      subst hp
      simp [rcells]
    | succ i =>
      simp at hp
      have := ih hp
      rw [List.flatMap_cons, List.set_cons_succ, List.flatMap_cons, ← this, List.set_append_right _ _ (by simp [rcells]; omega)]
      congr 2
      simp [rcells]
      omega
section
variable {e : Env} {w : World} {A : List HP}
theorem row.setS {g o n c i size : Nat} {T : TypeId} {xs : List Value} (H : Holds e w (row (.slice (some ⟨g, o, none⟩) n c) T size n xs :: A)) (v : Value) :
    Holds e (w.setCell ⟨g, o + i, none⟩ v) (row (.slice (some ⟨g, o, none⟩) n c) T size n (xs.set i v) :: A) := by
  rcases (row.open H).2 with ⟨h0, _⟩ | ⟨g1, cap, cur, h0, h1, h2, h3, h4, h5⟩
  · cases h0
  · cases h0
    rw [Nat.zero_add]
    have h6 := h5.set i v
    refine row.made h6 h1 h2 (by simp [h3]) ?_
    rw [← h4, Array.toList_setIfInBounds, List.take_set]
theorem row.frozen {g o n c i size : Nat} {T : TypeId} {xs : List Value} (H : Holds e w (row (.slice (some ⟨g, o, none⟩) n c) T size n xs :: A)) : w.frozen? ⟨g, o + i, none⟩ = false := by
  rcases (row.open H).2 with ⟨h0, _⟩ | ⟨g1, cap, cur, h0, h1, h2, h3, h4, h5⟩
  · cases h0
  · cases h0
    exact h5.frozen _
theorem row.zero {a : Option Addr} {n c size : Nat} {T : TypeId} {xs : List Value} (H : Holds e w (row (.slice a n c) T size n xs :: A)) (hn : 0 < n) : ∃ g, a = some ⟨g, 0, none⟩ := by
  rcases (row.open H).2 with ⟨h0, h1⟩ | ⟨g1, cap, cur, h0, h1, h2, h3, h4, h5⟩
  · omega
  · cases h0
    exact ⟨_, rfl⟩
end
end Go.Proofs.Ytjbphdjheklhbaa
