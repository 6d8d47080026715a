/-
  A flat memory: the pages from 0 on, each to be read and written; its bytes, its words. No program in sight.
-/
import Derived.Test.YtjbphdjheklhbaaHp5
namespace Go.Proofs.Ytjbphdjheklhbaa
open Go.RowKit

structure Fl (n : Nat) (M : List Pg) : Prop where
  ok : ModOk M
  len : M.length = n
  at' : ∀ (i : Nat) x, M[i]? = some x → x.pg = i ∧ x.perm = 3
  small : n ≤ 1000

theorem modH_ok {e : Env} {w : World} {R : List HP} {m : Nat} {M : List Pg} (H : Holds e w (modH m M :: R)) : ModOk M := (mod_open H).choose_spec.1

section
variable {n : Nat} {M : List Pg}
theorem Fl.fnd (F : Fl n M) (q : Nat) : fnd M q = M[q]? := by
  cases h : M[q]? with
  | some x =>
    have h1 := (F.at' q x h).1
    have := F.ok.fndAt h
    rw [h1] at this
    exact this
  | none =>
    cases hf : Go.Proofs.Ytjbphdjheklhbaa.fnd M q with
    | none => rfl
    | some x =>
      obtain ⟨i, hi, hp⟩ := fnd_at hf
      have h1 := (F.at' i x hi).1
      rw [← hp, h1, hi] at h
      cases h
theorem pg_small {a : Nat} (h : a < 4194304) : pgOf a = a / 4096 := by unfold pgOf; omega
theorem canon_small {a : Nat} (h : a < 4194304) : canon a = true := by unfold canon; simp; omega
theorem Fl.chkAt0 (F : Fl n M) {a u j : Nat} (hu : u = 1 ∨ u = 2) (h : a + j < 4096 * n) : chkAt M a u j = 0 := by
  have hs := F.small
  unfold chkAt
  rw [if_neg (by omega), canon_small (by omega), if_neg (by decide), F.fnd, pg_small (by omega)]
  have hl : (a + j) / 4096 < M.length := by rw [F.len]; omega
  rw [List.getElem?_eq_getElem hl]
  have := (F.at' _ _ (List.getElem?_eq_getElem hl)).2
  dsimp only
  rw [this]
  rcases hu with rfl | rfl <;> rfl
theorem Fl.chkAt9 (F : Fl n M) {a u j : Nat} (h : 4096 * n ≤ a + j) (h2 : a + j < 4194304) : chkAt M a u j = 9 := by
  unfold chkAt
  rw [if_neg (by omega), canon_small (by omega), if_neg (by decide), F.fnd, pg_small (by omega), List.getElem?_eq_none (by rw [F.len]; omega)]
theorem Fl.chkAtN (F : Fl n M) {a u j : Nat} (h : 4096 * n ≤ a + j) : chkAt M a u j ≠ 0 := by
  have hs := F.small
  unfold chkAt
  split
  · decide
  · split
    · decide
    · next h1 h2 =>
      have : Go.Proofs.Ytjbphdjheklhbaa.fnd M (pgOf (a + j)) = none := by
        rw [F.fnd, List.getElem?_eq_none]
        rw [F.len]
        have hc : canon (a + j) = true := by simpa using h2
        unfold canon at hc
        simp at hc
        unfold pgOf
        rcases hc with hc | hc <;> omega
      rw [this]
      show (9 : Nat) ≠ 0
      decide
theorem Fl.chk0 (F : Fl n M) {a k u : Nat} (hu : u = 1 ∨ u = 2) (hk : 1 ≤ k) (hk2 : k ≤ 64) (h : a + k ≤ 4096 * n) : chk M a k u = 0 := by
  unfold chk
  rw [if_neg (by omega), Int.toNat_natCast]
  exact chkL_zero.2 fun j hj => F.chkAt0 hu (by omega)
theorem Fl.chk9 (F : Fl n M) {a k u : Nat} (hk : 1 ≤ k) (hk2 : k ≤ 64) (h : 4096 * n ≤ a) (h2 : a < 4194304) : chk M a k u = 9 := by
  unfold chk
  rw [if_neg (by omega), Int.toNat_natCast]
  have h9 := F.chkAt9 (u := u) (j := 0) (a := a) (by omega) (by omega)
  rw [chkL_stop (k := 0) (by omega) (fun j hj => by omega) (by rw [h9]; decide), h9]
theorem Fl.wrAt (F : Fl n M) (b : Nat) (v : UInt8) : Fl n (wrAt M b v) := by
  refine ⟨F.ok.wrAt b v, by unfold Go.Proofs.Ytjbphdjheklhbaa.wrAt; rw [List.length_map]; exact F.len, ?_, F.small⟩
  intro i x hx
  unfold Go.Proofs.Ytjbphdjheklhbaa.wrAt at hx
  rw [List.getElem?_map] at hx
  cases h : M[i]? with
  | none => rw [h] at hx; cases hx
  | some y =>
    rw [h] at hx
    have := F.at' i y h
    simp only [Option.map_some, Option.some.injEq] at hx
    subst hx
    split <;> exact this
theorem Fl.wrb (F : Fl n M) (a : Nat) (l : List UInt8) : Fl n (wrb M a l) := by
  unfold Go.Proofs.Ytjbphdjheklhbaa.wrb
  generalize l.zipIdx = ps
  induction ps generalizing M with
  | nil => exact F
  | cons p ps ih => exact ih (F.wrAt _ _)
theorem Fl.byte_wrAt (F : Fl n M) {b b' : Nat} (h : b < 4096 * n) (h' : b' < 4096 * n) (v : UInt8) : byteOf (Go.Proofs.Ytjbphdjheklhbaa.wrAt M b v) b' = if b' = b then v else byteOf M b' := by
  have hs := F.small
  unfold byteOf
  rw [(F.wrAt b v).fnd, F.fnd]
  unfold Go.Proofs.Ytjbphdjheklhbaa.wrAt
  rw [List.getElem?_map]
  have hl : pgOf b' < M.length := by rw [pg_small (by omega), F.len]; omega
  rw [List.getElem?_eq_getElem hl]
  have hx := (F.at' _ _ (List.getElem?_eq_getElem hl)).1
  have hbl := F.ok.len _ (List.getElem_mem hl)
  simp only [Option.map_some]
  rw [hx]
  have p1 : pgOf b = b / 4096 := pg_small (by omega)
  have p2 : pgOf b' = b' / 4096 := pg_small (by omega)
  unfold offOf
  by_cases hp : pgOf b' = pgOf b
  · rw [if_pos hp]
    simp only [Pg.put]
    rw [getD_set (by rw [hbl]; omega)]
    by_cases hb : b' = b
    · rw [if_pos hb, if_pos (by rw [hb])]
    · rw [if_neg hb, if_neg (by omega)]
  · rw [if_neg hp, if_neg (by rintro rfl; exact hp rfl)]
theorem Fl.byte_wrb (F : Fl n M) {a : Nat} : ∀ (l : List UInt8) {b : Nat}, a + l.length ≤ 4096 * n → b < 4096 * n → byteOf (Go.Proofs.Ytjbphdjheklhbaa.wrb M a l) b = if a ≤ b ∧ b < a + l.length then l.getD (b - a) 0 else byteOf M b := by
  suffices hh : ∀ (k : Nat) (l : List UInt8), l.length = k → ∀ {b : Nat}, a + l.length ≤ 4096 * n → b < 4096 * n → byteOf (Go.Proofs.Ytjbphdjheklhbaa.wrb M a l) b = if a ≤ b ∧ b < a + l.length then l.getD (b - a) 0 else byteOf M b from fun l => hh _ l rfl
  intro k
  induction k with
  | zero =>
    intro l hl b _ _
    obtain rfl := List.eq_nil_of_length_eq_zero hl
    rw [if_neg (by simp)]
    rfl
  | succ k ih =>
    intro l hl b h1 h2
    obtain ⟨l', v, rfl⟩ : ∃ l' v, l = l' ++ [v] := ⟨l.dropLast, l.getLast (by intro h; rw [h] at hl; simp at hl), (List.dropLast_concat_getLast _).symm⟩
    simp only [List.length_append, List.length_singleton] at hl h1 ⊢
    rw [wrb_snoc, (F.wrb a l').byte_wrAt (by omega) h2, ih l' (by omega) (by omega) h2]
    by_cases hb : b = a + l'.length
    · subst hb
      rw [if_pos rfl, if_pos (by omega)]
      simp [List.getD]
    · rw [if_neg hb]
      by_cases hb2 : a ≤ b ∧ b < a + l'.length
      · rw [if_pos hb2, if_pos (by omega)]
        simp [List.getD, List.getElem?_append_left (show b - a < l'.length by omega)]
      · rw [if_neg hb2, if_neg (by omega)]
theorem rdb_ext {M M' : List Pg} {a k : Nat} (h : ∀ j, j < k → byteOf M (a + j) = byteOf M' (a + j)) : rdb M a k = rdb M' a k := by
  unfold rdb
  apply List.map_congr_left
  intro j hj
  exact h j (List.mem_range.1 hj)
/-- A word that was written. -/
theorem Fl.hd_same (F : Fl n M) {a x : Nat} (h : a + 8 ≤ 4096 * n) (hx : x < 18446744073709551616) : hdW (Go.Proofs.Ytjbphdjheklhbaa.wrb M a (le 8 x)) a = x := by
  unfold hdW
  have : rdb (Go.Proofs.Ytjbphdjheklhbaa.wrb M a (le 8 x)) a 8 = le 8 x := by
    apply List.ext_getElem
    · rw [rdb_length, le_length]
    · intro j h1 h2
      rw [rdb_length] at h1
      simp only [rdb, List.getElem_map, List.getElem_range]
      rw [F.byte_wrb _ (by rw [le_length]; omega) (by omega), if_pos (by rw [le_length]; omega)]
      rw [show a + j - a = j by omega]
      simp [List.getD, List.getElem?_eq_getElem h2]
  rw [this]
  exact unle_le 8 x hx
theorem Fl.hd_other (F : Fl n M) {a a' : Nat} {l : List UInt8} (h : a + l.length ≤ 4096 * n) (h' : a' + 8 ≤ 4096 * n) (hd : a' + 8 ≤ a ∨ a + l.length ≤ a') : hdW (Go.Proofs.Ytjbphdjheklhbaa.wrb M a l) a' = hdW M a' := by
  unfold hdW
  rw [rdb_ext fun j hj => ?_]
  rw [F.byte_wrb _ h (by omega), if_neg (by omega)]
theorem Fl.sto (F : Fl n M) {a : Nat} {l : List UInt8} (h0 : 1 ≤ l.length) (h1 : l.length ≤ 64) (h : a + l.length ≤ 4096 * n) : stoP M a l = Go.Proofs.Ytjbphdjheklhbaa.wrb M a l := by
  unfold stoP
  rw [if_pos (F.chk0 (.inr rfl) h0 h1 h)]
end
end Go.Proofs.Ytjbphdjheklhbaa
