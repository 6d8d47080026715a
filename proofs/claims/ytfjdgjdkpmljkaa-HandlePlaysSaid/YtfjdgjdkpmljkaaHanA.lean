/-
  The table of handles and the document's list agree.
-/
import Derived.Test.YtfjdgjdkpmljkaaHanR2
namespace Go.Proofs.Ytfjdgjdkpmljkaa
open Go.RowKit

theorem pigeon : ∀ (m n : Nat) (f : Nat → Nat), (∀ i, i < n → f i < m) → (∀ i j, i < n → j < n → f i = f j → i = j) → n ≤ m
  | 0, n, f, h, _ => by
    apply Classical.byContradiction
    intro hn
    have := h 0 (by omega)
    omega
  | m + 1, n, f, h, hi => by
    by_cases hx : ∃ i, i < n ∧ f i = m
    · obtain ⟨i, hin, hfi⟩ := hx
      have := pigeon m (n - 1) (fun j => f (if j < i then j else j + 1)) (fun j hj => by
        have h1 : (if j < i then j else j + 1) < n := by split <;> omega
        have h2 := h _ h1
        have h3 : f (if j < i then j else j + 1) ≠ m := by
          intro e
          have := hi _ _ h1 hin (e.trans hfi.symm)
          split at this <;> omega
        show f (if j < i then j else j + 1) < m
        omega) (fun j k hj hk e => by
        have h1 : (if j < i then j else j + 1) < n := by split <;> omega
        have h2 : (if k < i then k else k + 1) < n := by split <;> omega
        have := hi _ _ h1 h2 e
        split at this <;> split at this <;> omega)
      omega
    · have := pigeon m n f (fun j hj => by
        have h1 := h j hj
        have h2 : f j ≠ m := fun e => hx ⟨j, hj, e⟩
        omega) hi
      omega

theorem getD_app {α : Type} {x : List α} {y d : α} (k : Nat) : (x ++ [y]).getD k d = if k < x.length then x.getD k d else if k = x.length then y else d := by
  by_cases h : k < x.length
  · simp [List.getD, h, List.getElem?_append_left h]
  · by_cases h2 : k = x.length
    · subst h2; simp
    · simp [List.getD, h, h2, List.getElem?_eq_none (show (x ++ [y]).length ≤ k by simp; omega)]


section
variable {t : TabS} {x : List HE} (A : Agree t x)
include A

/-- A handle at place k of the list. -/
theorem Agree.at {h : Int} {k : Nat} (hk : k < x.length) (hh : (x.getD k ((0 : Int), PlaceS.zero)).1 = h) : atR x h = k := by
  refine atR_some hk hh fun j hj e => ?_
  exact A.nodup j k hj hk (e.trans hh.symm)

theorem Agree.inb_yes {h : Int} {k : Nat} (_ha : atR x h = k) (hk : k < x.length) (hh : (x.getD k ((0 : Int), PlaceS.zero)).1 = h) : t.inb h = true ∧ t.all h.toNat = (x.getD k ((0 : Int), PlaceS.zero)).2 := by
  obtain ⟨h1, h2, h3, h4⟩ := A.yes k hk
  rw [hh] at h1 h2 h4
  exact ⟨TabS.inb_mk h1 h2 (by rw [h4]; exact PlaceS.ne_zero h3), h4⟩

theorem Agree.inb_no {h : Int} (ha : atR x h = -1) : t.inb h = false := by
  cases hi : t.inb h with
  | false => rfl
  | true =>
    obtain ⟨h1, h2, h3⟩ := TabS.inb_yes hi
    have := A.no h.toNat (by omega) (by omega) h3
    rw [show ((h.toNat : Nat) : Int) = h by omega, ha] at this
    omega

theorem Agree.get_yes {h : Int} {k : Nat} (ha : atR x h = k) (hk : k < x.length) (hh : (x.getD k ((0 : Int), PlaceS.zero)).1 = h) : t.get h = ((x.getD k ((0 : Int), PlaceS.zero)).2, true) := by
  obtain ⟨h1, h2⟩ := A.inb_yes ha hk hh
  unfold TabS.get
  rw [if_pos h1, h2]
theorem Agree.get_no {h : Int} (ha : atR x h = -1) : t.get h = (PlaceS.zero, false) := by
  unfold TabS.get
  rw [if_neg (by rw [A.inb_no ha]; exact Bool.false_ne_true)]

theorem Agree.free (hl : x.length < 512) : ∃ h0 : Nat, t.free = some h0 ∧ 1 ≤ h0 ∧ h0 ≤ 512 ∧ atR x h0 = -1 ∧ ∀ h' : Nat, 1 ≤ h' → h' < h0 → 0 ≤ atR x h' := by
  cases hf : t.free with
  | none =>
    exfalso
    have hall := TabS.free_none hf
    have := pigeon x.length 512 (fun i => (atR x ((i + 1 : Nat) : Int)).toNat) (fun i hi => by
      have := A.no (i + 1) (by omega) (by omega) (hall _ (by omega) (by omega))
      rcases atR_cases x ((i + 1 : Nat) : Int) with ⟨h1, _⟩ | ⟨k, hk, h1, _⟩
      · omega
      · show (atR x ((i + 1 : Nat) : Int)).toNat < _; omega) (fun i j hi hj e => by
      have h1 := A.no (i + 1) (by omega) (by omega) (hall _ (by omega) (by omega))
      have h2 := A.no (j + 1) (by omega) (by omega) (hall _ (by omega) (by omega))
      rcases atR_cases x ((i + 1 : Nat) : Int) with ⟨g1, _⟩ | ⟨k, hk, g1, g2⟩
      · omega
      · rcases atR_cases x ((j + 1 : Nat) : Int) with ⟨g3, _⟩ | ⟨k', hk', g3, g4⟩
        · omega
        · have e' : (atR x ((i + 1 : Nat) : Int)).toNat = (atR x ((j + 1 : Nat) : Int)).toNat := e
          rw [g1, g3] at e'
          have : k = k' := by simpa using e'
          subst this
          rw [g2] at g4
          omega)
    omega
  | some h0 =>
    obtain ⟨h1, h2, h3, h4⟩ := TabS.free_some hf
    refine ⟨h0, rfl, h1, h2, ?_, fun h' g1 g2 => A.no h' g1 (by omega) (h4 h' g1 g2)⟩
    rcases atR_cases x (h0 : Int) with ⟨g1, _⟩ | ⟨k, hk, g1, g2⟩
    · exact g1
    · exfalso
      obtain ⟨_, _, y3, y4⟩ := A.yes k hk
      rw [g2, Int.toNat_natCast, h3] at y4
      exact PlaceS.ne_zero y3 y4.symm

theorem Agree.make {p : PlaceS} (hp : p.ok) {h0 : Nat} (h1 : 1 ≤ h0) (h2 : h0 ≤ 512) (hn : atR x h0 = -1) : Agree { t.put h0 p with many := t.many + 1 } (x ++ [((h0 : Int), p)]) := by
  have hne : ∀ k, k < x.length → (x.getD k ((0 : Int), PlaceS.zero)).1 ≠ h0 := by
    intro k hk e
    have := A.at hk e
    omega
  have hall : ∀ h, h ≠ h0 → ({ t.put h0 p with many := t.many + 1 } : TabS).all h = t.all h := fun h hh => if_neg hh
  have hall0 : ({ t.put h0 p with many := t.many + 1 } : TabS).all h0 = p := if_pos rfl
  refine ⟨fun k hk => ?_, fun h g1 g2 g3 => ?_, fun j k hj hk => ?_, ?_⟩
  · rw [getD_app]
    by_cases hk' : k < x.length
    · rw [if_pos hk']
      obtain ⟨y1, y2, y3, y4⟩ := A.yes k hk'
      refine ⟨y1, y2, y3, ?_⟩
      rw [hall _ (by have := hne k hk'; omega)]
      exact y4
    · have hkx : k = x.length := by simp at hk; omega
      rw [if_neg hk', if_pos hkx]
      exact ⟨by omega, by omega, hp, by rw [Int.toNat_natCast]; exact hall0⟩
  · by_cases hh : h = h0
    · subst hh
      have : atR (x ++ [((h : Int), p)]) h = (x.length : Nat) := by
        refine atR_some (by simp) (by rw [getD_app, if_neg (by omega), if_pos rfl]) fun j hj => ?_
        rw [getD_app, if_pos hj]
        exact hne j hj
      omega
    · rw [hall h hh] at g3
      have := A.no h g1 g2 g3
      rcases atR_cases x (h : Int) with ⟨e, _⟩ | ⟨k, hk, e, e2⟩
      · omega
      · rcases atR_cases (x ++ [((h0 : Int), p)]) (h : Int) with ⟨_, e3⟩ | ⟨k', _, e3, _⟩
        · have := e3 k (by simp; omega)
          rw [getD_app, if_pos hk] at this
          exact absurd e2 this
        · omega
  · rw [getD_app, getD_app, if_pos (by simp at hk; omega)]
    by_cases hk' : k < x.length
    · rw [if_pos hk']; exact A.nodup j k hj hk'
    · rw [if_neg hk', if_pos (by simp at hk; omega)]
      exact hne j (by simp at hk; omega)
  · show t.many + 1 = _
    rw [A.many]; simp

theorem Agree.set {p : PlaceS} (hp : p.ok) {h : Int} {k : Nat} (hk : k < x.length) (hh : (x.getD k ((0 : Int), PlaceS.zero)).1 = h) : Agree (t.put h.toNat p) (x.set k (h, p)) := by
  obtain ⟨q1, q2, _, _⟩ := A.yes k hk
  rw [hh] at q1 q2
  have hg : ∀ j, j < x.length → (x.set k (h, p)).getD j ((0 : Int), PlaceS.zero) = if j = k then (h, p) else x.getD j ((0 : Int), PlaceS.zero) := by
    intro j hj
    by_cases e : j = k
    · subst e; simp [List.getD, hj]
    · simp [List.getD, e, List.getElem?_set_ne (fun e' => e e'.symm)]
  have h1 : ∀ j, j < x.length → ((x.set k (h, p)).getD j ((0 : Int), PlaceS.zero)).1 = (x.getD j ((0 : Int), PlaceS.zero)).1 := by
    intro j hj
    rw [hg j hj]
    split
    · rename_i e; subst e; exact hh.symm
    · rfl
  refine ⟨fun j hj => ?_, fun h' g1 g2 g3 => ?_, fun j j' hj hj' => ?_, ?_⟩
  · simp at hj
    obtain ⟨y1, y2, y3, y4⟩ := A.yes j hj
    rw [hg j hj]
    by_cases e : j = k
    · subst e
      rw [if_pos rfl]
      exact ⟨q1, q2, hp, if_pos rfl⟩
    · rw [if_neg e]
      refine ⟨y1, y2, y3, ?_⟩
      have hne : (x.getD j ((0 : Int), PlaceS.zero)).1 ≠ h := by
        intro e2
        have a1 := A.at hj e2
        have a2 := A.at hk hh
        omega
      rw [show (t.put h.toNat p).all (x.getD j ((0 : Int), PlaceS.zero)).1.toNat = t.all (x.getD j ((0 : Int), PlaceS.zero)).1.toNat from if_neg (by omega)]
      exact y4
  · have key : ∀ j, j < x.length → (x.getD j ((0 : Int), PlaceS.zero)).1 = (h' : Int) → 0 ≤ atR (x.set k (h, p)) h' := by
      intro j hj e
      rcases atR_cases (x.set k (h, p)) (h' : Int) with ⟨_, e3⟩ | ⟨k', _, e3, _⟩
      · have := e3 j (by simpa using hj)
        exact absurd ((h1 j hj).trans e) this
      · omega
    by_cases e : h' = h.toNat
    · exact key k hk (by omega)
    · rw [show (t.put h.toNat p).all h' = t.all h' from if_neg e] at g3
      have := A.no h' g1 g2 g3
      rcases atR_cases x (h' : Int) with ⟨e1, _⟩ | ⟨j, hj, _, e2⟩
      · omega
      · exact key j hj e2
  · simp at hj'
    rw [h1 j (by omega), h1 j' hj']
    exact A.nodup j j' hj hj'
  · show t.many = _
    rw [A.many]; simp

theorem Agree.drop {h : Int} {k : Nat} (hk : k < x.length) (hh : (x.getD k ((0 : Int), PlaceS.zero)).1 = h) : Agree { t.put h.toNat PlaceS.zero with many := t.many - 1 } (x.take k ++ x.drop (k + 1)) := by
  obtain ⟨q1, q2, _, _⟩ := A.yes k hk
  rw [hh] at q1 q2
  have hlen : (x.take k ++ x.drop (k + 1)).length = x.length - 1 := by simp; omega
  have hg : ∀ j, (x.take k ++ x.drop (k + 1)).getD j ((0 : Int), PlaceS.zero) = x.getD (if j < k then j else j + 1) ((0 : Int), PlaceS.zero) := by
    intro j
    by_cases e : j < k
    · simp [List.getD, e, List.getElem?_append_left (show j < (x.take k).length by simp; omega)]
    · simp only [e, if_false, List.getD]
      rw [List.getElem?_append_right (by simp; omega), List.getElem?_drop]
      congr 2
      simp; omega
  have hall : ∀ h', h' ≠ h.toNat → ({ t.put h.toNat PlaceS.zero with many := t.many - 1 } : TabS).all h' = t.all h' := fun h' e => if_neg e
  refine ⟨fun j hj => ?_, fun h' g1 g2 g3 => ?_, fun j j' hj hj' => ?_, ?_⟩
  · rw [hlen] at hj
    rw [hg]
    have hj2 : (if j < k then j else j + 1) < x.length := by split <;> omega
    have hjk : (if j < k then j else j + 1) ≠ k := by split <;> omega
    generalize (if j < k then j else j + 1) = i at *
    obtain ⟨y1, y2, y3, y4⟩ := A.yes i hj2
    refine ⟨y1, y2, y3, ?_⟩
    have hne : (x.getD i ((0 : Int), PlaceS.zero)).1 ≠ h := by
      intro e2
      have a1 := A.at hj2 e2
      have a2 := A.at hk hh
      omega
    rw [hall _ (by omega)]
    exact y4
  · have hne : h' ≠ h.toNat := by
      intro e
      subst e
      exact g3 (if_pos rfl)
    rw [hall h' hne] at g3
    have := A.no h' g1 g2 g3
    rcases atR_cases x (h' : Int) with ⟨e1, _⟩ | ⟨j, hj, _, e2⟩
    · omega
    · have hjk : j ≠ k := by rintro rfl; rw [hh] at e2; omega
      rcases atR_cases (x.take k ++ x.drop (k + 1)) (h' : Int) with ⟨_, e3⟩ | ⟨k', _, e3, _⟩
      · have := e3 (if j < k then j else j - 1) (by rw [hlen]; split <;> omega)
        rw [hg] at this
        have hix : (if (if j < k then j else j - 1) < k then (if j < k then j else j - 1) else (if j < k then j else j - 1) + 1) = j := by
          by_cases e : j < k
          · rw [if_pos e, if_pos e]
          · rw [if_neg e, if_neg (by omega)]; omega
        rw [hix] at this
        exact absurd e2 this
      · omega
  · rw [hlen] at hj'
    rw [hg, hg]
    exact A.nodup _ _ (by split <;> split <;> omega) (by split <;> omega)
  · show t.many - 1 = _
    rw [A.many, hlen]; omega

theorem Agree.ofs (page : Int) : ∀ k, k ≤ 512 → t.ofTo page k = ofR x page k
  | 0, _ => rfl
  | k + 1, hk => by
    have ih := Agree.ofs page k (by omega)
    unfold TabS.ofTo ofR
    rcases atR_cases x ((k + 1 : Nat) : Int) with ⟨e1, _⟩ | ⟨i, hi, e1, e2⟩
    · have := A.inb_no e1
      have hz : t.all (k + 1) = PlaceS.zero := by
        rcases TabS.inb_no this with h | h | h
        · omega
        · omega
        · exact h
      rw [if_neg (fun h => h.1 hz), if_neg (fun h => by rw [e1] at h; omega), ih]
    · obtain ⟨h1, h2⟩ := A.inb_yes e1 hi e2
      obtain ⟨_, _, h3⟩ := TabS.inb_yes h1
      rw [Int.toNat_natCast] at h2 h3
      by_cases hp : (t.all (k + 1)).page = page
      · rw [if_pos ⟨h3, hp⟩, if_pos ⟨by omega, by rw [e1, Int.toNat_natCast, ← h2]; exact hp⟩, ih]
      · rw [if_neg (fun h => hp h.2), if_neg (fun h => hp (by rw [h2]; have := h.2; rw [e1, Int.toNat_natCast] at this; exact this)), ih]
end

theorem Agree.start : Agree TabS.zero [] := ⟨fun k hk => by simp at hk, fun h _ _ h3 => absurd rfl h3, fun j k _ hk => by simp at hk, rfl⟩

end Go.Proofs.Ytfjdgjdkpmljkaa
