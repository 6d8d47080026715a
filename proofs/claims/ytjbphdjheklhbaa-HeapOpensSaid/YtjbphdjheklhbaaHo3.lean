/-
  Layer 47, HeapOpens: bytes that are opened as a heap. No program in sight.
-/
import Derived.Test.YtjbphdjheklhbaaHo2
namespace Go.Proofs.Ytjbphdjheklhbaa
open Go.RowKit

/-- The memory begins with these bytes. -/
def Begins (M : List Pg) (b : List UInt8) : Prop := ∀ j, j < b.length → byteOf M j = b.getD j 0
theorem Begins.take {M : List Pg} {b : List UInt8} (h : Begins M b) (k : Nat) : Begins M (b.take k) := by
  intro j hj
  rw [List.length_take] at hj
  rw [h j (by omega)]
  simp [List.getD, show j < k by omega]
theorem Begins.hd {M : List Pg} {b : List UInt8} (h : Begins M b) {o : Nat} (ho : o + 8 ≤ b.length) : hdW M o = hdB b o := by
  unfold hdW hdB
  congr 1
  apply List.ext_getElem
  · rw [rdb_length, List.length_take, List.length_drop]; omega
  · intro j h1 h2
    rw [rdb_length] at h1
    simp only [rdb, List.getElem_map, List.getElem_range, List.getElem_take, List.getElem_drop]
    rw [h _ (by omega)]
    simp [List.getD, List.getElem?_eq_getElem (show o + j < b.length by omega)]
theorem Begins.blk {M : List Pg} {b : List UInt8} (F : Fl 1 M) (h : Begins M b) (hb : b.length ≤ 4096) {o : Nat} (ho : o + 8 ≤ b.length) : rdBlk M 0 b.length o = rdB b o := by
  unfold rdBlk rdB
  have e0 : chk M (0 + o) 8 1 = 0 := F.chk0 (k := 8) (.inl rfl) (by omega) (by omega) (by omega)
  rw [if_neg (by rw [e0]; decide), Nat.zero_add, h.hd ho]
theorem rdB_mod {b : List UInt8} {o : Nat} {x : BlkS} (h : rdB b o = .ok x) : x.size % 16 = 0 := by
  unfold rdB at h
  split at h
  · cases h
  · cases h; dsimp only; omega
theorem rdB_err {b : List UInt8} {o E : Nat} (h : rdB b o = .error E) : E = 3 := by
  unfold rdB at h
  split at h
  · cases h; rfl
  · cases h
theorem Begins.blks {M : List Pg} {b : List UInt8} (F : Fl 1 M) (h : Begins M b) (hb : b.length ≤ 4096) (h16 : b.length % 16 = 0) : ∀ (f o : Nat), o % 16 = 0 → blks M 0 b.length f o = blksB b f o
  | 0, _, _ => rfl
  | f + 1, o, ho => by
    unfold Go.Proofs.Ytjbphdjheklhbaa.blks blksB
    split
    · rfl
    · rw [h.blk F hb (by omega)]
      cases hr : rdB b o with
      | error E => rfl
      | ok x =>
        dsimp only
        rw [Begins.blks F h hb h16 f (o + x.size) (by have := rdB_mod hr; omega)]
theorem blksB_err {b : List UInt8} : ∀ (f o E : Nat), blksB b f o = .error E → E = 3
  | 0, _, _, h => by cases h
  | f + 1, o, E, h => by
    unfold blksB at h
    split at h
    · cases h
    · split at h
      · next hr => cases h; exact rdB_err hr
      · cases hr : blksB b f _ with
        | error E' =>
          rw [hr] at h
          simp only [Except.map, Except.error.injEq] at h
          subst h
          exact blksB_err f _ _ hr
        | ok l => rw [hr] at h; cases h
theorem Begins.zero (M : List Pg) : Begins M [] := fun j hj => by simp at hj
/-- Bytes are stored behind those that stand. -/
theorem Begins.store {M : List Pg} {b : List UInt8} (F : Fl 1 M) (hb : b.length ≤ 4000) {i : Nat} (h : Begins M (b.take i)) (hi : i < b.length) :
    stoP M i ((b.drop i).take 64) = wrb M i ((b.drop i).take 64) ∧ Fl 1 (wrb M i ((b.drop i).take 64)) ∧ Begins (wrb M i ((b.drop i).take 64)) (b.take (i + 64)) := by
  have hl : ((b.drop i).take 64).length = min 64 (b.length - i) := by rw [List.length_take, List.length_drop]
  refine ⟨F.sto (by omega) (by omega) (by omega), F.wrb _ _, ?_⟩
  intro j hj
  rw [List.length_take] at hj
  rw [F.byte_wrb _ (by omega) (by omega)]
  have e2 : (b.take (i + 64)).getD j 0 = b.getD j 0 := by simp [List.getD, show j < i + 64 by omega]
  rw [e2]
  split
  · next hc =>
    simp only [List.getD, List.getElem?_take, List.getElem?_drop]
    rw [if_pos (by omega), show i + (j - i) = j by omega]
  · next hc =>
    rw [h j (by rw [List.length_take]; omega)]
    simp [List.getD, show j < i by omega]
theorem open_high {M : List Pg} (F : Fl 1 M) (sz : Nat) (h : 16 ≤ sz) : blks M 4096 sz sz 0 = .error 9 := by
  obtain ⟨f, rfl⟩ : ∃ f, sz = f + 1 := ⟨sz - 1, by omega⟩
  unfold blks
  rw [if_neg (by omega)]
  have e0 : chk M (4096 + 0) 8 1 = 9 := F.chk9 (k := 8) (by omega) (by omega) (by omega) (by omega)
  have : rdBlk M 4096 (f + 1) 0 = .error 9 := by
    unfold rdBlk
    rw [e0, if_pos (by decide)]
  rw [this]
end Go.Proofs.Ytjbphdjheklhbaa
