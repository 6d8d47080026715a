/-
  LruPlays: the walk.
-/
import Derived.Test.YtfjdgjdkpmljkaaLru4
namespace Go.Proofs.Ytfjdgjdkpmljkaa
open Go.RowKit Go.Shelf

set_option maxRecDepth 100000 in
theorem flat_deed {W : World} {d : Nat} {cs : List Value} (h : Flat Try.prog W (d + 3) 90 cs) : ∃ (out : Bool) (v : Value) (zs : List Int), cs = [.bool out, v] ∧ Reads W v 1 zs.length (ints zs) := by
  obtain ⟨hl, hf⟩ := h.struct Try.underlying90
  have h2 : Try.prog.cellsOf 90 = 2 := by kernel_rfl
  have hb1 : Try.prog.cellsOf 4 = 1 := by kernel_rfl
  have hs1 : Try.prog.cellsOf 56 = 1 := by kernel_rfl
  have hi1 : Try.prog.cellsOf 3 = 1 := by kernel_rfl
  rw [h2] at hl
  have f0 : Flat Try.prog W (d + 2) 4 ((cs.drop 0).take (Try.prog.cellsOf 4)) := hf 0 _ rfl
  have f1 : Flat Try.prog W (d + 2) 56 ((cs.drop 1).take (Try.prog.cellsOf 56)) := hf 1 _ rfl
  rw [hb1] at f0
  rw [hs1] at f1
  obtain ⟨b, hb⟩ := f0.bool Try.underlying4
  obtain ⟨v, n, xs, hv, hr, _, he⟩ := f1.slice Try.underlying56
  match cs, hl with
  | [c0, c1], _ =>
    simp at hb hv
    subst hb hv
    rw [hi1] at hr he
    have hxl : xs.length = n := by have := hr.len; omega
    obtain ⟨zs, h3, _⟩ := cells_ints xs (fun k hk => by
      obtain ⟨z, h4, h5⟩ := (he k (by omega)).int Try.underlying3
      refine ⟨z, ?_, h5⟩
      rw [Nat.mul_one] at h4
      have := congrArg (·[0]?) h4
      simpa [List.getElem?_take, List.getElem?_drop] using this)
    subst h3
    have hn : n = zs.length := by simpa using hxl.symm
    subst hn
    exact ⟨b, _, zs, rfl, hr⟩

set_option maxRecDepth 100000 in
theorem deeds_of {W : World} {v : Value} {n : Nat} {xs : List Value} (hr : Reads W v 2 n xs) (hf : ∀ i, i < n → Flat Try.prog W 5 90 ((xs.drop (i * 2)).take 2)) :
    ∃ (a : Option Addr) (c : Nat) (D : List Deed), v = .slice a n c ∧ Deeds W a n D := by
  obtain ⟨a, c, rfl⟩ := hr.shape
  have each : ∀ m, m ≤ n → ∃ D : List Deed, D.length = m ∧ ∀ i, i < m → ∃ b o v, a = some ⟨b, o, none⟩ ∧ b < W.heap.size ∧ W.cell? ⟨b, o + i * 2, none⟩ = some (.bool (D.getD i (false, [])).1) ∧ W.cell? ⟨b, o + i * 2 + 1, none⟩ = some v ∧ Reads W v 1 (D.getD i (false, [])).2.length (ints (D.getD i (false, [])).2) := by
    intro m
    induction m with
    | zero => exact fun _ => ⟨[], rfl, fun i hi => by omega⟩
    | succ m ih =>
      intro hm
      obtain ⟨D, hl, hD⟩ := ih (by omega)
      obtain ⟨out, v, zs, h1, h2⟩ := flat_deed (hf m (by omega))
      obtain ⟨b, o, hb, hc⟩ := hr.at (by omega)
      have g0 : xs[m * 2]? = some (.bool out) := by
        have := congrArg (·[0]?) h1
        simpa [List.getElem?_take, List.getElem?_drop] using this
      have g1 : xs[m * 2 + 1]? = some v := by
        have := congrArg (·[1]?) h1
        simpa [List.getElem?_take, List.getElem?_drop] using this
      refine ⟨D ++ [(out, zs)], by simp [hl], fun i hi => ?_⟩
      by_cases him : i = m
      · subst him
        have e1 : (D ++ [(out, zs)]).getD i (false, []) = (out, zs) := by simp [List.getD, ← hl]
        rw [e1]
        exact ⟨b, o, v, hb, World.block_lt_of_cell? _ _ (hc _ _ g0), hc _ _ g0, by rw [Nat.add_assoc]; exact hc _ _ g1, h2⟩
      · have e1 : (D ++ [(out, zs)]).getD i (false, []) = D.getD i (false, []) := by simp [List.getD, List.getElem?_append_left (show i < D.length by omega)]
        rw [e1]
        exact hD i (by omega)
  obtain ⟨D, hl, hD⟩ := each n (Nat.le_refl _)
  exact ⟨a, c, D, rfl, hl, hD⟩

theorem nats_getI {l : List Nat} {k : Nat} (hk : k < l.length) : (nats l)[k]? = some ((l.getD k 0 : Nat) : Int) := by
  simp [nats, List.getD, List.getElem?_eq_getElem hk]
theorem atI_natsI {A B : List Nat} {y : Nat} (h : y ∉ A) : atI (nats (A ++ y :: B)) (y : Int) = A.length := by
  refine atI_some (by simp [nats_length']) ?_ ?_
  · simp [nats]
  · intro j hj
    simp only [List.getD, nats_getI (show j < (A ++ y :: B).length by simp; omega), Option.getD_some]
    simp only [List.getElem?_append_left hj, List.getElem?_eq_getElem hj, Option.getD_some]
    intro e
    exact h (by rw [show y = A[j] by omega]; exact List.getElem_mem hj)

/-- What is told of a number's place: it isn't there; it is the newest; another one is newer. -/
theorem lru_shape {L : List Nat} (hnd : L.Nodup) (x : Int) :
    (atI (nats L) x = -1 ∧ (if 0 ≤ x ∧ x.toNat ∈ L then hd0 (nxt L x.toNat) else 0) = 0 ∧ (if 0 ≤ x ∧ x.toNat ∈ L then ne0 (nxt L x.toNat) else false) = false ∧ decide (0 ≤ x ∧ x.toNat ∈ L) = false) ∨
    (∃ i : Nat, atI (nats L) x = i ∧ L.length = i + 1 ∧ (if 0 ≤ x ∧ x.toNat ∈ L then hd0 (nxt L x.toNat) else 0) = 0 ∧ (if 0 ≤ x ∧ x.toNat ∈ L then ne0 (nxt L x.toNat) else false) = false ∧ decide (0 ≤ x ∧ x.toNat ∈ L) = true) ∨
    (∃ i u : Nat, atI (nats L) x = i ∧ i + 1 < L.length ∧ L.getD (i + 1) 0 = u ∧ (if 0 ≤ x ∧ x.toNat ∈ L then hd0 (nxt L x.toNat) else 0) = (u : Int) ∧ (if 0 ≤ x ∧ x.toNat ∈ L then ne0 (nxt L x.toNat) else false) = true ∧ decide (0 ≤ x ∧ x.toNat ∈ L) = true) := by
  by_cases hx : 0 ≤ x ∧ x.toNat ∈ L
  · obtain ⟨y, rfl⟩ : ∃ y : Nat, x = (y : Int) := ⟨x.toNat, by omega⟩
    obtain ⟨A, B, hAB⟩ := List.append_of_mem hx.2
    rw [Int.toNat_natCast] at hAB
    have hyA : y ∉ A := by
      intro h
      rw [hAB, List.nodup_append] at hnd
      exact hnd.2.2 y h y (by simp) rfl
    have hN : nxt L y = B := by rw [hAB]; exact nxt_app hyA
    have hA : atI (nats L) (y : Int) = A.length := by rw [hAB]; exact atI_natsI hyA
    cases B with
    | nil => exact .inr (.inl ⟨A.length, hA, by rw [hAB]; simp, by rw [if_pos hx, Int.toNat_natCast, hN]; rfl, by rw [if_pos hx, Int.toNat_natCast, hN]; rfl, decide_eq_true hx⟩)
    | cons u B => exact .inr (.inr ⟨A.length, u, hA, by rw [hAB]; simp, by rw [hAB]; simp [List.getD], by rw [if_pos hx, Int.toNat_natCast, hN]; rfl, by rw [if_pos hx, Int.toNat_natCast, hN]; rfl, decide_eq_true hx⟩)
  · exact .inl ⟨if_neg (fun h => hx (nats_mem'.1 h)), if_neg hx, if_neg hx, decide_eq_false hx⟩

theorem oldL_len (m : Int) (L : List Nat) : (oldL m L).length ≤ L.length := by
  unfold oldL takeM
  split
  · simp
  · split
    · simp; omega
    · exact Nat.le_refl _
end Go.Proofs.Ytfjdgjdkpmljkaa
