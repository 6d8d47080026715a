/-
  Package heap: New, Open, Left.
-/
import Derived.Test.YtjbphdjheklhbaaHp4
namespace Go.Proofs.Ytjbphdjheklhbaa
open Go.RowKit

theorem mayH_ok {base : Nat} {size : Int} (h : mayH base size = true) : base % 16 = 0 ∧ 16 ≤ size ∧ size ≤ 65536 ∧ size % 16 = 0 ∧ (base : Int) ≤ 18446744073709551615 - size := by
  unfold mayH at h
  simp only [Bool.and_eq_true, decide_eq_true_eq] at h
  omega
section
variable {e : Env} {w : World} {R : List HP} {m : Nat} {M : List Pg}
theorem hpNewNo {base : Nat} (hb : base < 18446744073709551616) (size : Int) (h0 : -9223372036854775808 ≤ size) (h1 : size ≤ 9223372036854775807) (hm : mayH base size = false) :
    Calls Try.prog 15 #[memV m, .int .u64 base, .int .i64 size] w (Quiet w (.tuple #[.pointer none, .int .i64 1])) := by
  have c := fun w => hpMay (w := w) (m := m) hb size h0 h1
  rw [hm] at c
  unfold memV at *
  go_enter Try.func15, Try.ntmps15
  go_wp2_with fail
  refine (c _).mono ?_
  rintro e w1 ⟨rfl, n1, rfl⟩
  go_wp2_with fail
  go_ret2
  exact ⟨rfl, _, rfl⟩
theorem hpNewNil {base : Nat} (size : Int) :
    Calls Try.prog 15 #[.nilIface, .int .u64 base, .int .i64 size] w (Quiet w (.tuple #[.pointer none, .int .i64 1])) := by
  have c := fun w => hpMayNil (w := w) (base := base) size
  go_enter Try.func15, Try.ntmps15
  go_wp2_with fail
  refine (c _).mono ?_
  rintro e w1 ⟨rfl, n1, rfl⟩
  go_wp2_with fail
  go_ret2
  exact ⟨rfl, _, rfl⟩
theorem hpOpenNo {base : Nat} (hb : base < 18446744073709551616) (size : Int) (h0 : -9223372036854775808 ≤ size) (h1 : size ≤ 9223372036854775807) (hm : mayH base size = false) :
    Calls Try.prog 11 #[memV m, .int .u64 base, .int .i64 size] w (Quiet w (.tuple #[.pointer none, .int .i64 1])) := by
  have c := fun w => hpMay (w := w) (m := m) hb size h0 h1
  rw [hm] at c
  unfold memV at *
  go_enter Try.func11, Try.ntmps11
  go_wp2_with fail
  refine (c _).mono ?_
  rintro e w1 ⟨rfl, n1, rfl⟩
  go_wp2_with fail
  go_ret2
  exact ⟨rfl, _, rfl⟩

def ptrIf (E h : Nat) : Value := if E = 0 then .pointer (some ⟨h, 0, none⟩) else .pointer none
set_option maxRecDepth 100000 in
theorem hpNew {base size : Nat} (hb : base < 18446744073709551616) (hm : mayH base size = true) (H : Holds e w (modH m M :: R)) :
    Calls Try.prog 15 #[memV m, .int .u64 base, .int .i64 size] w
      (RetEx e (fun h : Nat => .tuple #[ptrIf (chk M base 8 2) h, .int .i64 (chk M base 8 2)]) (fun h => pts h (hpObj m base size) :: modH m (stoP M base (le 8 size)) :: R)) := by
  obtain ⟨hm1, hm2, hm3, hm4, hm5⟩ := mayH_ok hm
  have c := fun w => hpMay (w := w) (m := m) hb size (by omega) (by omega)
  rw [hm] at c
  have CW : Hid (∀ w' h, Holds e w' (pts h (hpObj m base size) :: modH m M :: R) → Calls Try.prog 47 #[.pointer (some ⟨h, 0, none⟩), .int .i64 0, .int .i64 size, .bool false] w' (Ret e (.int .i64 (chk M base 8 2)) (pts h (hpObj m base size) :: modH m (stoP M base (le 8 size)) :: R))) := Lib.hid fun w' h h' => by
    have := hpWrite 0 size (by omega) (by omega) (by omega) false h'
    simpa using this
  generalize stoP M base (le 8 size) = M' at *
  have HA := fun n => (H.drewN n).alloc (hpObj m base size)
  have HAL := Lib.hid HA
  unfold memV at *
  clear H HA
  by_cases hE : chk M base 8 2 = 0
  · have e1 : ∀ h, ptrIf (chk M base 8 2) h = .pointer (some ⟨h, 0, none⟩) := fun h => by unfold ptrIf; rw [if_pos hE]
    simp only [e1]
    rw [hE] at CW ⊢
    clear hE e1
    go_enter Try.func15, Try.ntmps15
    go_wp2_with fail
    refine (c _).mono ?_
    rintro e w1 ⟨rfl, n1, rfl⟩
    go_wp2_with fail
    refine (CW.out _ _ (HAL.out n1)).mono ?_
    rintro e w2 ⟨rfl, H2⟩
    go_wp2_with fail
    go_ret2
    exact ⟨_, rfl, H2⟩
  · have e1 : ∀ h, ptrIf (chk M base 8 2) h = .pointer none := fun h => by unfold ptrIf; rw [if_neg hE]
    simp only [e1]
    generalize chk M base 8 2 = E at *
    have hEb : ((E : Int) != 0) = true := by simp; omega
    clear hE e1
    go_enter Try.func15, Try.ntmps15
    go_wp2_with fail
    refine (c _).mono ?_
    rintro e w1 ⟨rfl, n1, rfl⟩
    go_wp2_with fail
    refine (CW.out _ _ (HAL.out n1)).mono ?_
    rintro e w2 ⟨rfl, H2⟩
    go_wp2_with fail
    go_ret2
    exact ⟨_, rfl, H2⟩
set_option maxRecDepth 100000 in
theorem hpOpen {base size : Nat} (hb : base + 65544 < 18446744073709551616) (hm : mayH base size = true) (H : Holds e w (modH m M :: R)) :
    Calls Try.prog 11 #[memV m, .int .u64 base, .int .i64 size] w
      (RetEx e (fun h : Nat => .tuple #[ptrIf (errOf (blks M base size size 0)) h, .int .i64 (errOf (blks M base size size 0))]) (fun h => pts h (hpObj m base size) :: modH m M :: R)) := by
  obtain ⟨hm1, hm2, hm3, hm4, hm5⟩ := mayH_ok hm
  have c := fun w => hpMay (w := w) (m := m) (base := base) (by omega) size (by omega) (by omega)
  rw [hm] at c
  have CW : Hid (∀ w' h, Holds e w' (pts h (hpObj m base size) :: modH m M :: R) → Calls Try.prog 18 #[.pointer (some ⟨h, 0, none⟩)] w' (RetEx e (fun v : Value => .tuple #[v, .int .i64 (errOf (blks M base size size 0))]) (fun _ => pts h (hpObj m base size) :: modH m M :: R))) := Lib.hid fun w' h h' =>
    (hpBlocks hb (by omega) h').mono fun en w'' ⟨v, h1, h2⟩ => ⟨v, h1, h2.drop⟩
  have HA := fun n => (H.drewN n).alloc (hpObj m base size)
  have HAL := Lib.hid HA
  unfold memV at *
  clear H HA
  generalize errOf (blks M base size size 0) = E at *
  by_cases hE : E = 0
  · have e1 : ∀ h, ptrIf E h = .pointer (some ⟨h, 0, none⟩) := fun h => by unfold ptrIf; rw [if_pos hE]
    simp only [e1]
    subst hE
    clear e1
    go_enter Try.func11, Try.ntmps11
    go_wp2_with fail
    refine (c _).mono ?_
    rintro e w1 ⟨rfl, n1, rfl⟩
    go_wp2_with fail
    refine (CW.out _ _ (HAL.out n1)).mono ?_
    rintro e w2 ⟨v, rfl, H2⟩
    go_wp2_with fail
    go_ret2
    exact ⟨_, rfl, H2⟩
  · have e1 : ∀ h, ptrIf E h = .pointer none := fun h => by unfold ptrIf; rw [if_neg hE]
    simp only [e1]
    have hEb : ((E : Int) != 0) = true := by simp; omega
    clear hE e1
    go_enter Try.func11, Try.ntmps11
    go_wp2_with fail
    refine (c _).mono ?_
    rintro e w1 ⟨rfl, n1, rfl⟩
    go_wp2_with fail
    refine (CW.out _ _ (HAL.out n1)).mono ?_
    rintro e w2 ⟨v, rfl, H2⟩
    go_wp2_with fail
    go_ret2
    exact ⟨_, rfl, H2⟩

theorem hpBlocksNil : Calls Try.prog 18 #[.pointer none] w (Quiet w (.tuple #[.slice none 0 0, .int .i64 1])) := by
  go_enter Try.func18, Try.ntmps18
  go_wp2_with fail
  go_ret2
  exact ⟨rfl, 0, rfl⟩
theorem hpAllocNil (n : Int) : Calls Try.prog 17 #[.pointer none, .int .i64 n] w (Quiet w (.tuple #[.int .u64 0, .int .i64 1])) := by
  go_enter Try.func17, Try.ntmps17
  go_wp2_with fail
  go_ret2
  exact ⟨rfl, 0, rfl⟩
theorem hpFreeNil (a : Nat) : Calls Try.prog 16 #[.pointer none, .int .u64 a] w (Quiet w (.int .i64 1)) := by
  have c := fun w => hpBlocksNil (w := w)
  go_enter Try.func16, Try.ntmps16
  go_wp2_with fail
  refine (c _).mono ?_
  rintro e w1 ⟨rfl, n1, rfl⟩
  go_wp2_with fail
  go_ret
  exact ⟨rfl, _, rfl⟩
def leftS : List BlkS → Nat
  | [] => 0
  | b :: l => (if b.used then 0 else b.size - 8) + leftS l
theorem leftS_snoc (l : List BlkS) (b : BlkS) : leftS (l ++ [b]) = leftS l + if b.used then 0 else b.size - 8 := by
  induction l with
  | nil => simp [leftS]
  | cons x l ih => simp only [List.cons_append, leftS, ih]; omega
theorem leftS_le {n : Nat} (l : List BlkS) (h : ∀ b ∈ l, b.size ≤ n) : leftS l ≤ l.length * n := by
  induction l with
  | nil => simp [leftS]
  | cons x l ih =>
    have h1 := h x (by simp)
    have h2 := ih fun b hb => h b (List.mem_cons_of_mem _ hb)
    simp only [leftS, List.length_cons, Nat.succ_mul]
    split <;> omega
theorem bcells_at {base : Nat} {l : List BlkS} {k : Nat} {b : BlkS} (h : l[k]? = some b) (j : Nat) (hj : j < 3) : (l.flatMap (bcells base))[k * 3 + j]? = (bcells base b)[j]? := by
  induction l generalizing k with
  | nil => simp at h
  | cons x l ih =>
    cases k with
    | zero =>
      simp at h
      subst h
      rw [Nat.zero_mul, Nat.zero_add, List.flatMap_cons, List.getElem?_append_left (by simp [bcells]; omega)]
    | succ k =>
      simp at h
      rw [List.flatMap_cons, List.getElem?_append_right (by simp [bcells]; omega), ← ih h]
      congr 1
      simp [bcells]
      omega
/-- What is known of blocks that were read. -/
structure BlkOk (size : Nat) (l : List BlkS) : Prop where
  sz : ∀ b ∈ l, 16 ≤ b.size ∧ b.size ≤ size ∧ b.o < size
  len : l.length ≤ size
theorem blks_ok {M : List Pg} {base size : Nat} : ∀ (f o : Nat) (l : List BlkS), blks M base size f o = .ok l → (∀ b ∈ l, 16 ≤ b.size ∧ b.size ≤ size ∧ b.o < size) ∧ o + l.length ≤ max o size
  | 0, o, l, h => by
    unfold blks at h; cases h; simp; omega
  | f + 1, o, l, h => by
    unfold blks at h
    split at h
    · cases h; simp; omega
    · split at h
      · cases h
      · next b hb =>
        obtain ⟨h1, h2, h3, h4⟩ := rdBlk_ok hb
        cases hr : blks M base size f (o + b.size) with
        | error E => rw [hr] at h; cases h
        | ok l' =>
          rw [hr] at h
          simp only [Except.map, Except.ok.injEq] at h
          subst h
          obtain ⟨h5, h6⟩ := blks_ok f _ l' hr
          refine ⟨?_, ?_⟩
          · intro x hx
            rcases List.mem_cons.1 hx with rfl | hx
            · omega
            · exact h5 x hx
          · simp only [List.length_cons]; omega
theorem listOf_ok (M : List Pg) (base size : Nat) : BlkOk size (listOf (blks M base size size 0)) := by
  cases h : blks M base size size 0 with
  | error E => exact ⟨fun b hb => (by cases hb), by simp [listOf]⟩
  | ok l =>
    obtain ⟨h1, h2⟩ := blks_ok _ _ _ h
    exact ⟨h1, by simp only [listOf]; omega⟩

set_option maxRecDepth 100000 in
set_option maxHeartbeats 1000000 in
theorem hpLeft {h base size : Nat} (hb : base + 65544 < 18446744073709551616) (hsz : size ≤ 65536) (H : Holds e w (pts h (hpObj m base size) :: modH m M :: R)) :
    Calls Try.prog 19 #[.pointer (some ⟨h, 0, none⟩)] w
      (Ret e (.tuple #[.int .i64 (leftS (listOf (blks M base size size 0))), .int .i64 (errOf (blks M base size size 0))]) (pts h (hpObj m base size) :: modH m M :: R)) := by
  have hok := listOf_ok M base size
  have CB := Lib.hid (hpBlocks hb hsz H)
  generalize errOf (blks M base size size 0) = E at *
  generalize listOf (blks M base size size 0) = l at *
  obtain ⟨hbs, hll⟩ := hok
  have HBS := Lib.hid hbs
  clear H hbs
  obtain ⟨len, hlen⟩ : ∃ len, l.length = len := ⟨_, rfl⟩
  rw [hlen] at CB hll
  go_enter Try.func19, Try.ntmps19
  go_wp2_with fail
  refine CB.out.mono ?_
  rintro en w1 ⟨v, rfl, H1⟩
  obtain ⟨av, cv, rfl⟩ := row_shape H1
  clear CB
  go_wp2_with fail
  go_loopw [6, 16] (fun n i wr => ∃ k : Nat, k ≤ len ∧ i = .int .i64 (k : Nat) ∧ n = .int .i64 (leftS (l.take k)) ∧ leftS (l.take k) ≤ k * 65536 ∧ Holds e wr (row (.slice av len cv) 53 3 len (l.flatMap (bcells base)) :: pts h (hpObj m base size) :: modH m M :: R)) (fun _ i _ => len - (Go.RowKit.intOf i).toNat)
  case atStart => exact ⟨0, by omega, rfl, rfl, by simp [leftS], H1⟩
  case round =>
    obtain ⟨k, hk, rfl, rfl, hle, HX⟩ := hrel
    by_cases hlt : k < len
    · obtain ⟨b, hbk⟩ : ∃ b, l[k]? = some b := ⟨_, List.getElem?_eq_getElem (by omega)⟩
      obtain ⟨hb1, hb2, hb3⟩ := HBS.out b (List.mem_of_getElem? hbk)
      obtain ⟨g, of', rfl, hr⟩ := (row.reads HX).at (by omega)
      have c0 : wr.cell? ⟨g, of' + k * 3, none⟩ = some (.int .u64 ((base + b.o + 8 : Nat) : Int)) := hr _ _ (bcells_at hbk 0 (by omega))
      have c1 : wr.cell? ⟨g, of' + k * 3 + 1, none⟩ = some (.int .i64 b.size) := by rw [Nat.add_assoc]; exact hr _ _ (bcells_at hbk 1 (by omega))
      have c2 : wr.cell? ⟨g, of' + k * 3 + 2, none⟩ = some (.bool b.used) := by rw [Nat.add_assoc]; exact hr _ _ (bcells_at hbk 2 (by omega))
      have HS : Hid (leftS (l.take (k + 1)) = leftS (l.take k) + if b.used then 0 else b.size - 8) := Lib.hid (by rw [List.take_add_one, hbk]; exact leftS_snoc _ _)
      generalize leftS (l.take k) = n at *
      obtain ⟨bo, bs, bu⟩ := b
      dsimp only at *
      obtain ⟨t, ht⟩ : ∃ t, base + bo + 8 = t := ⟨_, rfl⟩
      rw [ht] at c0
      have HN := Lib.hid ((HX.alloc (.cells #[.int .u64 t, .int .i64 bs, .bool bu] 53)).drop)
      clear hr hbk ht HX
      cases bu
      · rw [if_neg (by decide)] at HS
        have hs : (bs : Int) - 8 = ((bs - 8 : Nat) : Int) := by omega
        obtain ⟨s8, hs8⟩ : ∃ s8, bs - 8 = s8 := ⟨_, rfl⟩
        rw [hs8] at hs HS
        have hs2 : s8 ≤ 65536 := by omega
        have hs3 : (n : Int) + (s8 : Int) = ((n + s8 : Nat) : Int) := by omega
        obtain ⟨ns, hns⟩ : ∃ ns, n + s8 = ns := ⟨_, rfl⟩
        rw [hns] at hs3 HS
        have hle2 : ns ≤ (k + 1) * 65536 := by omega
        clear hs8
        go_wp2_with fail
        go_roundw
        case rel => exact ⟨k + 1, by omega, by go_num, by rw [HS.out], by rw [HS.out]; exact hle2, HN.out⟩
        case measure => simp [Go.RowKit.intOf]; omega
      · have HS2 : Hid (leftS (l.take (k + 1)) = n) := Lib.hid (by have h := HS.out; simpa using h)
        have hle2 : n ≤ (k + 1) * 65536 := Nat.le_trans hle (Nat.mul_le_mul_right _ (Nat.le_succ k))
        clear HS
        go_wp2_with fail
        go_roundw
        case rel => exact ⟨k + 1, by omega, by go_num, by rw [HS2.out], by rw [HS2.out]; exact hle2, HN.out⟩
        case measure => simp [Go.RowKit.intOf]; omega
    · obtain rfl : k = len := by omega
      rw [List.take_of_length_le (by omega)]
      have HD := Lib.hid HX.drop
      clear HX
      go_wp2_with fail
      go_ret2
      exact ⟨rfl, HD.out⟩
end
end Go.Proofs.Ytjbphdjheklhbaa
