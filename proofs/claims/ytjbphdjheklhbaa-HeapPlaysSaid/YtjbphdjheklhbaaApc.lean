/-
  Layer 47, HeapApart: what is kept beside the heap.
-/
import Derived.Test.YtjbphdjheklhbaaApb
namespace Go.Proofs.Ytjbphdjheklhbaa
open Go.RowKit

abbrev BQ := List (BlkS × Nat)
def frQ (Q : BQ) : List Nat := Q.map fun q => 16 + q.1.o + 8
def toQ (Q : BQ) : List Nat := Q.map fun q => 16 + q.1.o + 8 + q.2
@[simp] theorem frQ_len (Q : BQ) : (frQ Q).length = Q.length := by simp [frQ]
@[simp] theorem toQ_len (Q : BQ) : (toQ Q).length = Q.length := by simp [toQ]
structure QOk (size : Nat) (Q : BQ) (l : List BlkS) : Prop where
  perm : (Q.map (·.1)).Perm (usedL l)
  fit : ∀ q ∈ Q, q.2 + 8 ≤ q.1.size
  na : NA true l
  lay : Lay 0 l size
theorem QOk.zero (size : Nat) (h16 : 16 ≤ size) (hm : size % 16 = 0) : QOk size [] [⟨0, size, false⟩] := ⟨List.Perm.refl _, by simp, ⟨.inl rfl, trivial⟩, ⟨rfl, h16, hm, by simp [Lay]⟩⟩
theorem QOk.mem {size : Nat} {Q : BQ} {l : List BlkS} (h : QOk size Q l) {q : BlkS × Nat} (hq : q ∈ Q) : q.1 ∈ usedL l := h.perm.mem_iff.1 (List.mem_map.2 ⟨q, hq, rfl⟩)
theorem QOk.bd {size : Nat} {Q : BQ} {l : List BlkS} (h : QOk size Q l) {q : BlkS × Nat} (hq : q ∈ Q) : q.1.o + q.1.size ≤ size ∧ q.2 + 8 ≤ q.1.size := ⟨(h.lay.mem (mem_used.1 (h.mem hq)).1).2.1, h.fit q hq⟩
/-- A block is freed. -/
theorem QOk.free {size : Nat} {Q : BQ} {l : List BlkS} (h : QOk size Q l) {k : Nat} {q : BlkS × Nat} (hk : Q[k]? = some q) {hl : Lay 0 (freeL (isAt 16 (16 + q.1.o + 8)) l) size} :
    freeE (idxOf (isAt 16 (16 + q.1.o + 8)) l) = 0 ∧ QOk size (Q.eraseIdx k) (freeL (isAt 16 (16 + q.1.o + 8)) l) ∧ freeE (idxOf (isAt 16 (16 + q.1.o + 8)) (freeL (isAt 16 (16 + q.1.o + 8)) l)) = 6 := by
  obtain ⟨h1, h2, h3⟩ := free_used (base := 16) h.lay (h.mem (List.mem_of_getElem? hk))
  refine ⟨h1, ⟨?_, fun x hx => h.fit x (List.mem_of_mem_eraseIdx hx), NA.free _ (Nat.le_refl _) h.na, hl⟩, h3⟩
  have e1 : (Q.map (·.1)).Perm (q.1 :: (Q.eraseIdx k).map (·.1)) := by
    obtain ⟨e1, e2⟩ := split_at hk
    rw [e2]
    conv => lhs; rw [e1]
    rw [List.map_append, List.map_cons, List.map_append]
    exact List.perm_middle
  exact List.Perm.cons_inv ((e1.symm.trans h.perm).trans h2)
/-- A block is taken. -/
theorem QOk.take {size need many : Nat} {Q : BQ} {l : List BlkS} (h : QOk size Q l) {b : BlkS} (hf : l.find? (fits need) = some b) (hl : Lay 0 (allocL l need) size) (hm : many + 8 ≤ need) :
    QOk size (Q ++ [(⟨b.o, need, true⟩, many)]) (allocL l need) := by
  refine ⟨?_, ?_, NA.alloc h.na, hl⟩
  · rw [List.map_append]
    refine List.Perm.trans ?_ (usedL_alloc hf).symm
    refine (List.perm_append_comm).trans ?_
    exact List.Perm.cons _ h.perm
  · intro q hq
    rcases List.mem_append.1 hq with hq | hq
    · exact h.fit q hq
    · have : q = (⟨b.o, need, true⟩, many) := by simpa using hq
      subst this; exact hm
/-- What is taken lies apart from what was. -/
theorem QOk.apart {size need many : Nat} {Q : BQ} {l : List BlkS} (h : QOk size Q l) {b : BlkS} (hf : l.find? (fits need) = some b) (hl : Lay 0 (allocL l need) size) (hm : many + 8 ≤ need) {q : BlkS × Nat} (hq : q ∈ Q) :
    16 + q.1.o + 8 + q.2 ≤ 16 + b.o + 8 ∨ 16 + b.o + 8 + many ≤ 16 + q.1.o + 8 := by
  have hQ := h.take hf hl hm
  have h1 := hQ.mem (q := q) (by simp [hq])
  have h2 := hQ.mem (q := (⟨b.o, need, true⟩, many)) (by simp)
  have hfit := h.fit q hq
  have hne : q.1.o ≠ b.o := by
    intro he
    have := lay_inj hl (mem_used.1 h1).1 (mem_used.1 h2).1 he
    have hnd := used_nodup hl
    have hp := hQ.perm.nodup_iff.2 hnd
    rw [List.map_append, List.map_cons, List.map_nil] at hp
    exact (List.nodup_append.1 hp).2.2 q.1 (List.mem_map.2 ⟨q, hq, rfl⟩) _ (by simp) this
  have := lay_apart hl (mem_used.1 h1).1 (mem_used.1 h2).1 hne
  dsimp only at this
  omega
theorem QOk.nil {size : Nat} {l : List BlkS} (h : QOk size [] l) (hs : 16 ≤ size) : l = [⟨0, size, false⟩] :=
  h.na.one (List.Perm.eq_nil h.perm.symm) h.lay hs
theorem elem_u64 : ElemOf Try.prog 45 28 1 8 := ElemOf.mk (z := .int .u64 0) (by kernel_rfl) (by kernel_rfl) rfl (by decide)
theorem u64v_len (l : List Nat) : (u64v l).length = l.length := by simp [u64v]
theorem u64v_one (l : List Nat) : ∀ u ∈ u64v l, u.oneCell' = true := by
  intro u hu; simp [u64v] at hu; obtain ⟨x, _, rfl⟩ := hu; rfl
theorem u64v_take (l : List Nat) (k : Nat) : (u64v l).take k = u64v (l.take k) := by simp [u64v, List.map_take]
theorem u64v_drop (l : List Nat) (k : Nat) : (u64v l).drop k = u64v (l.drop k) := by simp [u64v, List.map_drop]
theorem u64v_append (a b : List Nat) : u64v (a ++ b) = u64v a ++ u64v b := by simp [u64v]
def u64R (v : Value) (n : Nat) (l : List Nat) : HP := row v 28 1 n (u64v l)
theorem heapA_lay {e : Env} {w : World} {R : List HP} {m n h base size : Nat} {l : List BlkS} (H : Holds e w (heapA h m base size n l :: R)) : Lay 0 l size := (heap_open H).choose_spec.1.lay
theorem erase_take {α : Type} (l : List α) (k : Nat) : l.eraseIdx k = l.take k ++ l.drop (k + 1) := List.eraseIdx_eq_take_drop_succ ..
theorem frQ_erase (Q : BQ) (k : Nat) : frQ (Q.eraseIdx k) = (frQ Q).take k ++ (frQ Q).drop (k + 1) := by
  unfold frQ; rw [erase_take, List.map_append, List.map_take, List.map_drop]
theorem toQ_erase (Q : BQ) (k : Nat) : toQ (Q.eraseIdx k) = (toQ Q).take k ++ (toQ Q).drop (k + 1) := by
  unfold toQ; rw [erase_take, List.map_append, List.map_take, List.map_drop]
end Go.Proofs.Ytjbphdjheklhbaa
