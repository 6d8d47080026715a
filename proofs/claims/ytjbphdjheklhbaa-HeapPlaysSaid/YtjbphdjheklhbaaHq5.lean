/-
  Layer 47, HeapPlays: lemmas, and the calls of the reference and the heap beside one another.
-/
import Derived.Test.YtjbphdjheklhbaaHq4
import Derived.Test.YtjbphdjheklhbaaApc
namespace Go.Proofs.Ytjbphdjheklhbaa
open Go.RowKit

theorem freeL_congr {p q : BlkS → Bool} : ∀ (k : Nat) (l : List BlkS), l.length ≤ k → (∀ b ∈ l, p b = q b) → freeL p l = freeL q l
  | _, [], _, _ => rfl
  | 0, c :: l, h, _ => by simp at h
  | k + 1, c :: l, h, hp => by
    rw [freeL_cons, freeL_cons, hp c (by simp)]
    cases l with
    | nil => rfl
    | cons d l =>
      dsimp only
      rw [hp d (by simp), freeL_congr k (d :: l) (by simpa using h) (fun b hb => hp b (List.mem_cons_of_mem _ hb))]
theorem idxOf_congr {p q : BlkS → Bool} {l : List BlkS} (h : ∀ b ∈ l, p b = q b) : idxOf p l = idxOf q l := by
  unfold idxOf
  induction l with
  | nil => rfl
  | cons c l ih => rw [List.findIdx?_cons, List.findIdx?_cons, h c (by simp), ih fun b hb => h b (List.mem_cons_of_mem _ hb)]
theorem lay_rb {l : List BlkS} {size : Nat} (h : Lay 0 l size) (hs : size ≤ 65536) : RbOk l := by
  have key : ∀ (l : List BlkS) (o hi : Nat), Lay o l hi → o + l.length ≤ hi := by
    intro l
    induction l with
    | nil => intro o hi h; exact Nat.le_of_eq h
    | cons c l ih => intro o hi h; have := ih _ _ h.2.2.2; have := h.2.1; simp only [List.length_cons]; omega
  have := key _ _ _ h
  refine ⟨by omega, fun b hb => ?_⟩
  have := h.mem hb
  omega
theorem at_R {bs a : Nat} {z : Int} (ha : ((bs : Int) + z) % 18446744073709551616 = (a : Int)) (hb : bs ≤ 12288) (h0 : -9223372036854775808 ≤ z) (h1 : z ≤ 9223372036854775807) {b : BlkS} (ho : b.o ≤ 65536) : isAt bs a b = isR z b := by
  unfold isAt isR
  congr 1
  rw [Bool.eq_iff_iff]
  simp only [decide_eq_true_eq]
  omega

section
variable {e : Env} {w : World} {R : List HP}
theorem hpLeftNil : Calls Try.prog 19 #[.pointer none] w (Quiet w (.tuple #[.int .i64 0, .int .i64 1])) := by
  have c := fun w => hpBlocksNil (w := w)
  go_enter Try.func19, Try.ntmps19
  go_wp2_with fail
  refine (c _).mono ?_
  rintro e w1 ⟨rfl, n1, rfl⟩
  go_wp2_with fail
  go_loopw [6, 16] (fun n i wr => n = .int .i64 0 ∧ i = .int .i64 0 ∧ ∃ q, wr = w.drewN q) (fun _ i _ => 0)
  case atStart => exact ⟨rfl, rfl, _, rfl⟩
  case round =>
    obtain ⟨rfl, rfl, q, rfl⟩ := hrel
    go_wp2_with fail
    go_ret2
    exact ⟨rfl, _, rfl⟩
def xRow (v : Value) (l : List BlkS) : HP := row v 60 3 l.length (l.flatMap rcells)
theorem refA_no {v : Value} {l : List BlkS} (hl : RbOk l) (n : Int) (h0 : ∀ y ∈ l, fitsR n y = false) (H : Holds e w (xRow v l :: R)) :
    Calls Try.prog 21 #[v, .int .i64 n] w (Ret e (.tuple #[v, .int .i64 (-1)]) (xRow v l :: R)) := retQ (refAllocNo hl n h0 v (row.reads H)) H
theorem refA_yes {v : Value} {l : List BlkS} (hl : RbOk l) (n : Int) (i : Nat) (b : BlkS) (hi : l[i]? = some b) (h0 : ∀ (j : Nat) y, j < i → l[j]? = some y → fitsR n y = false) (hf : fitsR n b = true) (H : Holds e w (xRow v l :: R)) :
    Calls Try.prog 21 #[v, .int .i64 n] w (RetEx e (fun v' => .tuple #[v', .int .i64 ((b.o + 8 : Nat) : Int)]) (fun v' => xRow v' (takeR l i b (szOf n)) :: xRow v l :: R)) :=
  refAllocYes hl n i b hi h0 hf v (fun _ h => row.reads h) H
theorem refF_no {v : Value} {l : List BlkS} (hl : RbOk l) (z : Int) (h0 : ∀ y ∈ l, isR z y = false) (H : Holds e w (xRow v l :: R)) :
    Calls Try.prog 22 #[v, .int .i64 z] w (Ret e (.tuple #[v, .bool false]) (xRow v l :: R)) := retQ (refFreeNo hl z h0 v (row.reads H)) H
theorem refF_yes {v : Value} {l : List BlkS} (hl : RbOk l) (z : Int) (a : Nat) (b : BlkS) (ha : l[a]? = some b) (hab : isR z b = true) (h0 : ∀ (j : Nat) y, j ≠ a → l[j]? = some y → isR z y = false) (H : Holds e w (xRow v l :: R)) :
    Calls Try.prog 22 #[v, .int .i64 z] w (RetEx e (fun v' => .tuple #[v', .bool true]) (fun v' => xRow v' (freeL (isR z) l) :: R)) :=
  (refFreeYes hl z a b ha hab h0 v (fun _ h => row.reads h) H).mono fun _ _ ⟨v', h1, h2⟩ => ⟨v', h1, h2.d1⟩
theorem hSame {m h bs size : Nat} {l : List BlkS} (v : Value) (H : Holds e w (heapA h m bs size 3 l :: xRow v l :: R)) :
    Calls Try.prog 14 #[.pointer (some ⟨h, 0, none⟩), .int .u64 bs, v] w (Ret e (.bool true) (heapA h m bs size 3 l :: xRow v l :: R)) := by
  obtain ⟨M, hI, H1⟩ := heap_open H
  have := hI.top
  exact retC (hpSame (R := xRow v l :: R) (by omega) hI.small hI.blks v (fun _ h' => row.reads h') H1) fun w' h' => heap_close hI h'
theorem hOpenAgain {m h bs size : Nat} {l : List BlkS} (hm : mayH bs size = true) (H : Holds e w (heapA h m bs size 3 l :: R)) :
    Calls Try.prog 11 #[memV m, .int .u64 bs, .int .i64 size] w (RetEx e (fun g : Nat => .tuple #[.pointer (some ⟨g, 0, none⟩), .int .i64 0]) (fun g => heapA g m bs size 3 l :: R)) := by
  obtain ⟨M, hI, H1⟩ := heap_open H
  have ht := hI.top
  have := hpOpen (m := m) (M := M) (base := bs) (size := size) (R := R) (by omega) hm H1.drop
  rw [hI.blks] at this
  exact this.mono fun _ _ ⟨g, h1, h2⟩ => ⟨g, h1, heap_close hI h2⟩
end

/-- Either no block is wide enough, or there is a first one. -/
theorem fits_cases (n : Int) (l : List BlkS) : (∀ y ∈ l, fitsR n y = false) ∨ ∃ (i : Nat) (b : BlkS), l[i]? = some b ∧ (∀ (j : Nat) y, j < i → l[j]? = some y → fitsR n y = false) ∧ fitsR n b = true := by
  cases h : l.findIdx? (fitsR n) with
  | none => exact .inl fun y hy => by rw [List.findIdx?_eq_none_iff] at h; exact h y hy
  | some i =>
    rw [List.findIdx?_eq_some_iff_getElem] at h
    obtain ⟨h1, h2, h3⟩ := h
    refine .inr ⟨i, l[i], List.getElem?_eq_getElem h1, fun j y hj hy => ?_, h2⟩
    obtain ⟨h4, h5⟩ := List.getElem?_eq_some_iff.1 hy
    have := h3 j hj
    rw [h5] at this
    simpa using this
theorem free_cases {l : List BlkS} {size : Nat} (hl : Lay 0 l size) (z : Int) : (∀ y ∈ l, isR z y = false) ∨ ∃ (a : Nat) (b : BlkS), l[a]? = some b ∧ isR z b = true ∧ (∀ (j : Nat) y, j ≠ a → l[j]? = some y → isR z y = false) := by
  cases h : l.findIdx? (isR z) with
  | none => exact .inl fun y hy => by rw [List.findIdx?_eq_none_iff] at h; exact h y hy
  | some i =>
    rw [List.findIdx?_eq_some_iff_getElem] at h
    obtain ⟨h1, h2, h3⟩ := h
    refine .inr ⟨i, l[i], List.getElem?_eq_getElem h1, h2, fun j y hj hy => ?_⟩
    obtain ⟨h4, h5⟩ := List.getElem?_eq_some_iff.1 hy
    apply Classical.byContradiction
    intro hc
    have hc' : isR z y = true := by simpa using hc
    have hp := List.pairwise_iff_getElem.1 (lay_nodup hl)
    have z1 := (hl.mem (List.mem_of_getElem? hy)).2.2.1
    have z2 := (hl.mem (List.getElem_mem h1)).2.2.1
    unfold isR at h2 hc'
    simp only [Bool.and_eq_true, decide_eq_true_eq] at h2 hc'
    rcases Nat.lt_or_gt_of_ne hj with hlt | hlt
    · have := hp j i h4 h1 hlt
      rw [h5] at this
      omega
    · have := hp i j h1 h4 hlt
      rw [h5] at this
      omega
/-- What the heap does is what the reference does. -/
theorem alloc_same {l : List BlkS} {size : Nat} (hl : Lay 0 l size) {n : Nat} (h1 : 1 ≤ n) :
    ((∀ y ∈ l, fitsR n y = false) → l.find? (fits (up16 (n + 8))) = none ∧ allocL l (up16 (n + 8)) = l) ∧
    (∀ (i : Nat) (b : BlkS), l[i]? = some b → (∀ (j : Nat) y, j < i → l[j]? = some y → fitsR n y = false) → fitsR n b = true → l.find? (fits (up16 (n + 8))) = some b ∧ allocL l (up16 (n + 8)) = takeR l i b (szOf n)) := by
  have hR : ∀ b ∈ l, fits (up16 (n + 8)) b = fitsR n b := fun b hb => fits_R h1 (hl.mem hb).2.2.2
  refine ⟨fun h => ?_, fun i b hi h0 hf => ?_⟩
  · have hn : l.find? (fits (up16 (n + 8))) = none := by
      rw [List.find?_eq_none]
      intro y hy
      rw [hR y hy, h y hy]
      decide
    exact ⟨hn, allocL_none hn⟩
  · rw [szOf_up h1]
    have h0' : ∀ (j : Nat) y, j < i → l[j]? = some y → fits (up16 (n + 8)) y = false := fun j y hj hy => by rw [hR y (List.mem_of_getElem? hy)]; exact h0 j y hj hy
    have hf' : fits (up16 (n + 8)) b = true := by rw [hR b (List.mem_of_getElem? hi)]; exact hf
    exact ⟨find_stop hi h0' hf', allocL_R hi h0' hf'⟩
theorem free_same {l : List BlkS} {bs a : Nat} {z : Int} (hl : RbOk l) (ha : ((bs : Int) + z) % 18446744073709551616 = (a : Int)) (hb : bs ≤ 12288) (h0 : -9223372036854775808 ≤ z) (h1 : z ≤ 9223372036854775807) :
    freeL (isAt bs a) l = freeL (isR z) l ∧ ((∀ y ∈ l, isR z y = false) → freeE (idxOf (isAt bs a) l) = 6 ∧ freeL (isAt bs a) l = l) ∧ ((∃ (i : Nat) (b : BlkS), l[i]? = some b ∧ isR z b = true) → freeE (idxOf (isAt bs a) l) = 0) := by
  have hc : ∀ b ∈ l, isAt bs a b = isR z b := fun b hb' => at_R ha hb h0 h1 (hl.sz b hb').1
  refine ⟨freeL_congr _ l (Nat.le_refl _) hc, fun hn => ?_, ?_⟩
  · have hi : idxOf (isAt bs a) l = none := idx_none fun j y hy => by rw [hc y (List.mem_of_getElem? hy)]; exact hn y (List.mem_of_getElem? hy)
    exact ⟨by rw [hi]; rfl, idx_nonfree hi⟩
  · rintro ⟨i, b, hi, hb'⟩
    rw [idxOf_congr hc]
    cases hx : idxOf (isR z) l with
    | some j => rfl
    | none =>
      unfold idxOf at hx
      rw [List.findIdx?_eq_none_iff] at hx
      rw [hx b (List.mem_of_getElem? hi)] at hb'
      cases hb'
end Go.Proofs.Ytjbphdjheklhbaa
