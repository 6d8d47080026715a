/-
  Layer 47: blocks that are used; no two free ones side by side. No program in sight.
-/
import Derived.Test.YtjbphdjheklhbaaApa
namespace Go.Proofs.Ytjbphdjheklhbaa
open Go.RowKit

/-- The blocks that are used. -/
def usedL (l : List BlkS) : List BlkS := l.filter (·.used)
theorem usedL_cons (c : BlkS) (l : List BlkS) : usedL (c :: l) = if c.used then c :: usedL l else usedL l := by
  unfold usedL; rw [List.filter_cons]
theorem mergeN_cons (x y : BlkS) (r : List BlkS) : mergeN x (y :: r) = if y.used then x :: y :: r else ⟨x.o, x.size + y.size, false⟩ :: r := rfl
theorem usedL_merge (x : BlkS) (hx : x.used = false) (r : List BlkS) : usedL (mergeN x r) = usedL r := by
  cases r with
  | nil => unfold mergeN; rw [usedL_cons, hx]; rfl
  | cons y r =>
    rw [mergeN_cons]
    cases hy : y.used
    · rw [if_neg (by decide), usedL_cons, usedL_cons, hy]; rfl
    · rw [if_pos rfl, usedL_cons, hx]; rfl
theorem usedL_free {p : BlkS → Bool} (hp : ∀ x, p x = true → x.used = true) (l : List BlkS) : usedL (freeL p l) = (usedL l).eraseP p := by
  suffices hh : ∀ (k : Nat) (l : List BlkS), l.length ≤ k → usedL (freeL p l) = (usedL l).eraseP p from hh _ l (Nat.le_refl _)
  intro k
  induction k with
  | zero => intro l hl; cases l with
    | nil => rfl
    | cons c l => simp at hl
  | succ k ih =>
    intro l hl
    cases l with
    | nil => rfl
    | cons c l =>
      rw [freeL_cons]
      by_cases hc : p c = true
      · rw [if_pos hc, usedL_merge _ rfl, usedL_cons, if_pos (hp c hc), List.eraseP_cons_of_pos hc]
      · rw [if_neg hc]
        cases l with
        | nil =>
          dsimp only
          rw [usedL_cons]
          split
          · rw [List.eraseP_cons_of_neg hc]; rfl
          · rfl
        | cons b l' =>
          dsimp only
          by_cases hb : (p b && !c.used) = true
          · rw [if_pos hb, usedL_merge _ rfl]
            simp at hb
            rw [usedL_cons, if_neg (by simp [hb.2]), usedL_cons, if_pos (hp b hb.1), List.eraseP_cons_of_pos hb.1]
          · rw [if_neg hb, usedL_cons, usedL_cons c, ih (b :: l') (by simpa using hl)]
            cases hcu : c.used
            · simp
            · simp only [if_true]
              rw [List.eraseP_cons_of_neg hc]
theorem usedL_alloc {l : List BlkS} {need : Nat} {b : BlkS} (h : l.find? (fits need) = some b) : (usedL (allocL l need)).Perm (⟨b.o, need, true⟩ :: usedL l) := by
  obtain ⟨l1, l2, e1, e2, e3, e4⟩ := allocL_some h
  rw [e4, e1]
  unfold usedL
  rw [List.filter_append, List.filter_append, List.filter_cons_of_pos (by rfl), List.filter_cons_of_neg (by simp [e2]), List.filter_append]
  have : (rest b need).filter (·.used) = [] := by
    unfold rest; split <;> rfl
  rw [this, List.nil_append]
  exact List.perm_middle

/-- No two free blocks side by side; is the one ahead used? -/
def NA : Bool → List BlkS → Prop
  | _, [] => True
  | u, b :: l => (u = true ∨ b.used = true) ∧ NA b.used l
theorem NA.weak {u : Bool} {l : List BlkS} (h : NA u l) : NA true l := by
  cases l with
  | nil => trivial
  | cons b l => exact ⟨.inl rfl, h.2⟩
theorem NA.alloc {need : Nat} : ∀ {l : List BlkS} {u : Bool}, NA u l → NA u (allocL l need)
  | [], _, _ => trivial
  | b :: l, u, h => by
    unfold allocL
    split
    · next hf =>
      unfold fits at hf
      simp at hf
      obtain ⟨h1, h2⟩ := h
      rw [hf.1] at h2
      refine ⟨.inr rfl, ?_⟩
      unfold rest
      split
      · exact ⟨.inl rfl, h2⟩
      · exact h2.weak
    · exact ⟨h.1, NA.alloc h.2⟩
theorem NA.merge {x : BlkS} {r : List BlkS} (h : NA true r) : NA true (mergeN x r) := by
  cases r with
  | nil => exact ⟨.inl rfl, trivial⟩
  | cons y r =>
    rw [mergeN_cons]
    cases hy : y.used
    · rw [if_neg (by decide)]
      have h2 := h.2
      rw [hy] at h2
      exact ⟨.inl rfl, h2⟩
    · rw [if_pos rfl]
      exact ⟨.inl rfl, .inr hy, h.2⟩
theorem NA.free {p : BlkS → Bool} : ∀ (k : Nat) {l : List BlkS}, l.length ≤ k → NA true l → NA true (freeL p l)
  | _, [], _, _ => trivial
  | 0, c :: l, hl, _ => by simp at hl
  | k + 1, c :: l, hl, h => by
    rw [freeL_cons]
    by_cases hc : p c = true
    · rw [if_pos hc]
      exact NA.merge h.2.weak
    · rw [if_neg hc]
      cases l with
      | nil => exact h
      | cons b l' =>
        dsimp only
        by_cases hb : (p b && !c.used) = true
        · rw [if_pos hb]
          exact NA.merge h.2.2.weak
        · rw [if_neg hb]
          refine ⟨.inl rfl, ?_⟩
          cases hcu : c.used
          · -- b is used, and not what is freed
            have hbu : b.used = true := by have := h.2.1; rw [hcu] at this; simpa using this
            have hpb : p b = false := by simpa [hcu] using hb
            have ih := NA.free (p := p) k (l := b :: l') (by simpa using hl) h.2.weak
            rw [freeL_cons, if_neg (by simp [hpb])] at ih ⊢
            cases l' with
            | nil => exact ⟨.inr hbu, trivial⟩
            | cons d l2 =>
              dsimp only at ih ⊢
              rw [if_neg (by simp [hbu])] at ih ⊢
              exact ⟨.inr hbu, ih.2⟩
          · exact NA.free k (by simpa using hl) h.2.weak
theorem NA.one {l : List BlkS} {size : Nat} (h : NA true l) (hu : usedL l = []) (hl : Lay 0 l size) (hs : 16 ≤ size) : l = [⟨0, size, false⟩] := by
  cases l with
  | nil => have : 0 = size := hl; omega
  | cons b l =>
    have hbu : b.used = false := by
      cases hb : b.used
      · rfl
      · rw [usedL_cons, hb] at hu; simp at hu
    cases l with
    | nil =>
      obtain ⟨h1, h2, h3, h4⟩ := hl
      have h5 : 0 + b.size = size := h4
      obtain ⟨o, s, u⟩ := b
      simp only at *
      subst h1 hbu
      rw [Nat.zero_add] at h5
      rw [h5]
    | cons c l =>
      exfalso
      have hcu : c.used = true := by have := h.2.1; rw [hbu] at this; simpa using this
      rw [usedL_cons, hbu, usedL_cons, hcu] at hu
      simp at hu

theorem lay_nodup {l : List BlkS} : ∀ {o hi : Nat}, Lay o l hi → l.Pairwise (fun x y => x.o + x.size ≤ y.o) := by
  induction l with
  | nil => intro o hi _; exact List.Pairwise.nil
  | cons c l ih =>
    intro o hi h
    obtain ⟨h1, h2, h3, h4⟩ := h
    refine List.Pairwise.cons (fun y hy => ?_) (ih h4)
    have := h4.mem hy
    omega
/-- Two blocks that begin at one place are one. -/
theorem lay_inj {l : List BlkS} {o hi : Nat} (h : Lay o l hi) {x y : BlkS} (hx : x ∈ l) (hy : y ∈ l) (he : x.o = y.o) : x = y := by
  obtain ⟨i, hi1, e1⟩ := List.getElem_of_mem hx
  obtain ⟨j, hj1, e2⟩ := List.getElem_of_mem hy
  have hp := List.pairwise_iff_getElem.1 (lay_nodup h)
  have zx := (h.mem hx).2.2.1
  have zy := (h.mem hy).2.2.1
  rcases Nat.lt_trichotomy i j with hl | hl | hl
  · have := hp i j hi1 hj1 hl; rw [e1, e2] at this; omega
  · subst hl; rw [← e1, ← e2]
  · have := hp j i hj1 hi1 hl; rw [e1, e2] at this; omega
theorem lay_apart {l : List BlkS} {o hi : Nat} (h : Lay o l hi) {x y : BlkS} (hx : x ∈ l) (hy : y ∈ l) (he : x.o ≠ y.o) : x.o + x.size ≤ y.o ∨ y.o + y.size ≤ x.o := by
  obtain ⟨i, hi1, e1⟩ := List.getElem_of_mem hx
  obtain ⟨j, hj1, e2⟩ := List.getElem_of_mem hy
  have hp := List.pairwise_iff_getElem.1 (lay_nodup h)
  rcases Nat.lt_trichotomy i j with hl | hl | hl
  · have := hp i j hi1 hj1 hl; rw [e1, e2] at this; exact .inl this
  · subst hl; exact absurd (by rw [← e1, ← e2]) he
  · have := hp j i hj1 hi1 hl; rw [e1, e2] at this; exact .inr this
theorem used_nodup {l : List BlkS} {o hi : Nat} (h : Lay o l hi) : (usedL l).Nodup := by
  have h1 : l.Nodup := by
    refine List.pairwise_iff_getElem.2 fun i j hi1 hj1 hl he => ?_
    have := List.pairwise_iff_getElem.1 (lay_nodup h) i j hi1 hj1 hl
    have z := (h.mem (List.getElem_mem hi1)).2.2.1
    rw [← he] at this
    omega
  exact List.Pairwise.filter _ h1
theorem mem_used {l : List BlkS} {b : BlkS} : b ∈ usedL l ↔ b ∈ l ∧ b.used = true := by unfold usedL; rw [List.mem_filter]
/-- A used block that is freed: it is found; what stays used; it is not found again. -/
theorem free_used {l : List BlkS} {base size : Nat} (h : Lay 0 l size) {b : BlkS} (hb : b ∈ usedL l) :
    freeE (idxOf (isAt base (base + b.o + 8)) l) = 0 ∧ (usedL l).Perm (b :: usedL (freeL (isAt base (base + b.o + 8)) l)) ∧ freeE (idxOf (isAt base (base + b.o + 8)) (freeL (isAt base (base + b.o + 8)) l)) = 6 := by
  obtain ⟨hbl, hbu⟩ := mem_used.1 hb
  have hp : ∀ x, isAt base (base + b.o + 8) x = true → x.used = true := fun x hx => by unfold isAt at hx; simp at hx; exact hx.1
  have hpb : isAt base (base + b.o + 8) b = true := by unfold isAt; simp [hbu]
  have huniq : ∀ x ∈ l, isAt base (base + b.o + 8) x = true → x = b := fun x hx hpx => by
    unfold isAt at hpx
    simp at hpx
    exact lay_inj h hx hbl (by omega)
  generalize isAt base (base + b.o + 8) = p at *
  obtain ⟨x, l1, l2, h1, h2, h3, h4⟩ := List.exists_of_eraseP hb hpb
  have hxb : x = b := huniq x (mem_used.1 (by rw [h3]; simp)).1 h2
  subst hxb
  have e1 : usedL (freeL p l) = l1 ++ l2 := by rw [usedL_free hp, h4]
  refine ⟨?_, ?_, ?_⟩
  · have : idxOf p l ≠ none := by
      unfold idxOf
      intro hn
      rw [List.findIdx?_eq_none_iff] at hn
      have := hn x hbl
      rw [hpb] at this; cases this
    cases hi : idxOf p l with
    | none => exact absurd hi this
    | some i => rfl
  · rw [e1, h3]; exact List.perm_middle
  · have : idxOf p (freeL p l) = none := by
      refine idx_none fun j y hy => ?_
      cases hpy : p y
      · rfl
      · exfalso
        have hyu : y ∈ usedL (freeL p l) := mem_used.2 ⟨List.mem_of_getElem? hy, hp y hpy⟩
        rw [e1] at hyu
        have hyl : y ∈ l := (mem_used.1 (show y ∈ usedL l by rw [h3]; rcases List.mem_append.1 hyu with h | h <;> simp [h])).1
        have := huniq y hyl hpy
        subst this
        have hnd := used_nodup h
        rw [h3] at hnd
        have := (List.nodup_append.1 hnd).2.2
        rcases List.mem_append.1 hyu with h5 | h5
        · exact this y h5 y (by simp) rfl
        · exact (List.nodup_cons.1 (List.nodup_append.1 hnd).2.1).1 h5
    rw [this]; rfl
end Go.Proofs.Ytjbphdjheklhbaa
