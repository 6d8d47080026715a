/-
  Layer 47: the reference's Left; has a heap just these blocks?
-/
import Derived.Test.YtjbphdjheklhbaaApb
namespace Go.Proofs.Ytjbphdjheklhbaa
open Go.RowKit

def rcells (b : BlkS) : List Value := [.int .i64 b.o, .int .i64 b.size, .bool b.used]
theorem rcells_len (l : List BlkS) : (l.flatMap rcells).length = l.length * 3 := by
  induction l with
  | nil => rfl
  | cons b l ih => simp [rcells, ih]; omega
theorem rcells_at {l : List BlkS} {k : Nat} {b : BlkS} (h : l[k]? = some b) (j : Nat) (hj : j < 3) : (l.flatMap rcells)[k * 3 + j]? = (rcells b)[j]? := by
  induction l generalizing k with
  | nil => simp at h
  | cons x l ih =>
    cases k with
    | zero =>
      simp at h
      subst h
      rw [Nat.zero_mul, Nat.zero_add, List.flatMap_cons, List.getElem?_append_left (by simp [rcells]; omega)]
    | succ k =>
      simp at h
      rw [List.flatMap_cons, List.getElem?_append_right (by simp [rcells]; omega), ← ih h]
      congr 1
      simp [rcells]
      omega
theorem rcells_one (l : List BlkS) : ∀ u ∈ l.flatMap rcells, u.oneCell' = true := by
  intro u hu
  obtain ⟨b, hb, hu⟩ := List.mem_flatMap.1 hu
  simp only [rcells, List.mem_cons, List.not_mem_nil, or_false] at hu
  rcases hu with rfl | rfl | rfl <;> rfl
theorem elem_rb : ElemOf Try.prog 38 60 3 24 := ElemOf.mk (z := .agg #[.int .i64 0, .int .i64 0, .bool false]) (by kernel_rfl) (by kernel_rfl) rfl (by decide)
/-- What is known of any blocks that are handed in. -/
structure RbOk (l : List BlkS) : Prop where
  len : l.length ≤ 65536
  sz : ∀ b ∈ l, b.o ≤ 65536 ∧ 8 ≤ b.size ∧ b.size ≤ 65536

section
variable {e : Env} {w : World} {R : List HP} {m : Nat} {M : List Pg}
set_option maxRecDepth 100000 in
set_option maxHeartbeats 1000000 in
theorem refLeft {l : List BlkS} (hl : RbOk l) (v : Value) (hr : Reads w v 3 l.length (l.flatMap rcells)) : Calls Try.prog 46 #[v] w (Quiet w (.int .i64 (leftS l))) := by
  obtain ⟨ad, c, rfl⟩ := hr.shape
  obtain ⟨len, hlen⟩ : ∃ len, l.length = len := ⟨_, rfl⟩
  have hlb := hl.len
  have HSZ := Lib.hid hl.sz
  rw [hlen] at hr hlb ⊢
  go_enter Try.func46, Try.ntmps46
  go_wp2_with fail
  go_loopw [3, 4] (fun n i wr => ∃ k : Nat, k ≤ len ∧ i = .int .i64 (k : Nat) ∧ n = .int .i64 (leftS (l.take k)) ∧ leftS (l.take k) ≤ k * 65536 ∧ ∃ q, wr = w.drewN q) (fun _ i _ => len - (Go.RowKit.intOf i).toNat)
  case atStart => exact ⟨0, by omega, rfl, rfl, by simp [leftS], 0, rfl⟩
  case round =>
    obtain ⟨k, hk, rfl, rfl, hle, q, rfl⟩ := hrel
    by_cases hlt : k < len
    · obtain ⟨b, hbk⟩ : ∃ b, l[k]? = some b := ⟨_, List.getElem?_eq_getElem (by omega)⟩
      obtain ⟨hb1, hb2, hb3⟩ := HSZ.out b (List.mem_of_getElem? hbk)
      obtain ⟨g, of', rfl, hrr⟩ := hr.at (by omega)
      have c1 : w.cell? ⟨g, of' + k * 3 + 1, none⟩ = some (.int .i64 b.size) := by rw [Nat.add_assoc]; exact hrr _ _ (rcells_at hbk 1 (by omega))
      have c2 : w.cell? ⟨g, of' + k * 3 + 2, none⟩ = some (.bool b.used) := by rw [Nat.add_assoc]; exact hrr _ _ (rcells_at hbk 2 (by omega))
      have HS : Hid (leftS (l.take (k + 1)) = leftS (l.take k) + if b.used then 0 else b.size - 8) := Lib.hid (by rw [List.take_add_one, hbk]; exact leftS_snoc _ _)
      generalize leftS (l.take k) = n at *
      obtain ⟨bo, bs, bu⟩ := b
      dsimp only at *
      clear hrr hbk
      cases bu
      · have HS2 : Hid (leftS (l.take (k + 1)) = n + (bs - 8)) := Lib.hid (by have h := HS.out; simpa using h)
        have s1 : (n : Int) + (bs : Int) = ((n + bs : Nat) : Int) := by omega
        obtain ⟨nb, hnb⟩ : ∃ nb, n + bs = nb := ⟨_, rfl⟩
        rw [hnb] at s1
        have s2 : (nb : Int) - 8 = ((n + (bs - 8) : Nat) : Int) := by omega
        obtain ⟨nx, hnx⟩ : ∃ nx, n + (bs - 8) = nx := ⟨_, rfl⟩
        rw [hnx] at s2 HS2
        have hb : nb ≤ 65536 * 65537 ∧ nx ≤ (k + 1) * 65536 := by omega
        obtain ⟨hb5, hb6⟩ := hb
        clear HS hnb hnx
        go_wp2_with fail
        go_roundw
        case rel => exact ⟨k + 1, by omega, by go_num, by rw [HS2.out], by rw [HS2.out]; exact hb6, _, rfl⟩
        case measure => simp [Go.RowKit.intOf]; omega
      · have HS2 : Hid (leftS (l.take (k + 1)) = n) := Lib.hid (by have h := HS.out; simpa using h)
        have hle2 : n ≤ (k + 1) * 65536 := Nat.le_trans hle (Nat.mul_le_mul_right _ (Nat.le_succ k))
        clear HS
        go_wp2_with fail
        go_roundw
        case rel => exact ⟨k + 1, by omega, by go_num, by rw [HS2.out], by rw [HS2.out]; exact hle2, _, rfl⟩
        case measure => simp [Go.RowKit.intOf]; omega
    · obtain rfl : k = len := by omega
      rw [List.take_of_length_le (by omega)]
      go_wp2_with fail
      go_ret
      exact ⟨rfl, _, rfl⟩

set_option maxRecDepth 100000 in
set_option maxHeartbeats 2000000 in
theorem hpSame {h base size : Nat} (hb : base + 65544 < 18446744073709551616) (hsz : size ≤ 65536) {l : List BlkS} (hl : blks M base size size 0 = .ok l) (v : Value) (hr : ∀ w', Holds e w' R → Reads w' v 3 l.length (l.flatMap rcells))
    (H : Holds e w (pts h (hpObj m base size) :: modH m M :: R)) :
    Calls Try.prog 14 #[.pointer (some ⟨h, 0, none⟩), .int .u64 base, v] w (Ret e (.bool true) (pts h (hpObj m base size) :: modH m M :: R)) := by
  have hok := listOf_ok M base size
  rw [hl] at hok
  simp only [listOf] at hok
  obtain ⟨hbs, hll⟩ := hok
  have CB : Hid (Calls Try.prog 18 #[.pointer (some ⟨h, 0, none⟩)] w (RetEx e (fun v : Value => .tuple #[v, .int .i64 0]) (fun v => row v 53 3 l.length (l.flatMap (bcells base)) :: pts h (hpObj m base size) :: modH m M :: R))) := Lib.hid (by
    have := hpBlocks hb hsz H
    rw [hl] at this
    exact this)
  have CL : Hid (∀ w' X, Holds e w' (pts h (hpObj m base size) :: modH m M :: X) → Calls Try.prog 19 #[.pointer (some ⟨h, 0, none⟩)] w' (Ret e (.tuple #[.int .i64 (leftS l), .int .i64 0]) (pts h (hpObj m base size) :: modH m M :: X))) := Lib.hid fun w' X h' => by
    have := hpLeft (m := m) (M := M) (h := h) hb hsz h'
    rw [hl] at this
    exact this
  have HR := Lib.hid hr
  obtain ⟨ad, c, rfl⟩ := (hr w H.drop.drop).shape
  have CRL : Hid (∀ w', Holds e w' R → Calls Try.prog 46 #[.slice ad l.length c] w' (Quiet w' (.int .i64 (leftS l)))) := Lib.hid fun w' h' => refLeft ⟨by omega, fun b hb' => by have := hbs b hb'; omega⟩ _ (HR.out w' h')
  have HBS := Lib.hid hbs
  obtain ⟨len, hlen⟩ : ∃ len, l.length = len := ⟨_, rfl⟩
  rw [hlen] at CB HR CRL hll ⊢
  have HLEN := Lib.hid hlen
  have hlf := leftS_le (n := 65536) l (fun b hb' => by have := hbs b hb'; omega)
  rw [hlen] at hlf
  have hlf2 : leftS l ≤ 65536 * 65536 := Nat.le_trans hlf (Nat.mul_le_mul_right _ (by omega))
  generalize leftS l = lf at *
  clear H hr hbs hl hlen hlf
  go_enter Try.func14, Try.ntmps14
  go_wp2_with fail
  refine CB.out.mono ?_
  rintro en w1 ⟨v, rfl, H1⟩
  obtain ⟨av, cv, rfl⟩ := row_shape H1
  clear CB
  go_wp2_with fail
  refine (CL.out _ _ (H1.re 3 [1, 2, 0])).mono ?_
  rintro en w2 ⟨rfl, H2⟩
  clear CL H1
  go_wp2_with fail
  refine (CRL.out _ H2.drop.drop.drop).mono ?_
  rintro en w3 ⟨rfl, q3, rfl⟩
  have H3 : Holds e (w2.drewN q3) (row (.slice av len cv) 53 3 len (l.flatMap (bcells base)) :: pts h (hpObj m base size) :: modH m M :: R) := (H2.drewN q3).re 3 [2, 0, 1]
  clear CRL H2
  go_wp2_with fail
  go_loopw [11] (fun i wr => ∃ k : Nat, k ≤ len ∧ i = .int .i64 (k : Nat) ∧ Holds e wr (row (.slice av len cv) 53 3 len (l.flatMap (bcells base)) :: pts h (hpObj m base size) :: modH m M :: R)) (fun i _ => len - (Go.RowKit.intOf i).toNat)
  case atStart => exact ⟨0, by omega, rfl, H3⟩
  case round =>
    clear H3
    obtain ⟨k, hk, rfl, HX⟩ := hrel
    by_cases hlt : k < len
    · obtain ⟨b, hbk⟩ : ∃ b, l[k]? = some b := ⟨_, List.getElem?_eq_getElem (by rw [HLEN.out]; exact hlt)⟩
      obtain ⟨hb1, hb2, hb3⟩ := HBS.out b (List.mem_of_getElem? hbk)
      obtain ⟨g, o1, rfl, _⟩ := (row.reads HX).at (by omega)
      obtain ⟨g2, o2, rfl, _⟩ := (HR.out _ HX.drop.drop.drop).at (by omega)
      have HRD : Hid (∀ w', Holds e w' (row (.slice (some ⟨g, o1, none⟩) len cv) 53 3 len (l.flatMap (bcells base)) :: pts h (hpObj m base size) :: modH m M :: R) →
          w'.cell? ⟨g, o1 + k * 3, none⟩ = some (.int .u64 ((base + b.o + 8 : Nat) : Int)) ∧ w'.cell? ⟨g, o1 + k * 3 + 1, none⟩ = some (.int .i64 b.size) ∧ w'.cell? ⟨g, o1 + k * 3 + 2, none⟩ = some (.bool b.used) ∧
          w'.cell? ⟨g2, o2 + k * 3, none⟩ = some (.int .i64 b.o) ∧ w'.cell? ⟨g2, o2 + k * 3 + 1, none⟩ = some (.int .i64 b.size) ∧ w'.cell? ⟨g2, o2 + k * 3 + 2, none⟩ = some (.bool b.used)) := Lib.hid fun w' h' => by
        obtain ⟨g3, o3, e3, r3⟩ := (row.reads h').at (by omega)
        cases e3
        obtain ⟨g4, o4, e4, r4⟩ := (HR.out _ h'.drop.drop.drop).at (by omega)
        cases e4
        refine ⟨r3 _ _ (bcells_at hbk 0 (by omega)), ?_, ?_, r4 _ _ (rcells_at hbk 0 (by omega)), ?_, ?_⟩
        · rw [Nat.add_assoc]; exact r3 _ _ (bcells_at hbk 1 (by omega))
        · rw [Nat.add_assoc]; exact r3 _ _ (bcells_at hbk 2 (by omega))
        · rw [Nat.add_assoc]; exact r4 _ _ (rcells_at hbk 1 (by omega))
        · rw [Nat.add_assoc]; exact r4 _ _ (rcells_at hbk 2 (by omega))
      obtain ⟨bo, bs, bu⟩ := b
      dsimp only at *
      obtain ⟨s1, hs1⟩ : ∃ s1, base + bo = s1 := ⟨_, rfl⟩
      obtain ⟨t, ht⟩ : ∃ t, s1 + 8 = t := ⟨_, rfl⟩
      rw [hs1, ht] at HRD
      have i1 : (base : Int) + (bo : Int) = (s1 : Int) := by omega
      have i2 : (s1 : Int) + 8 = (t : Int) := by omega
      have b1 : t < 18446744073709551616 := by omega
      obtain ⟨I, Wf, hI, hW, hWs⟩ := worlds_of HX
      have r0 := fun i => (HRD.out _ (hW i)).1
      have r1 := fun i => (HRD.out _ (hW i)).2.1
      have r2 := fun i => (HRD.out _ (hW i)).2.2.1
      have r3 := fun i => (HRD.out _ (hW i)).2.2.2.1
      have r4 := fun i => (HRD.out _ (hW i)).2.2.2.2.1
      have r5 := fun i => (HRD.out _ (hW i)).2.2.2.2.2
      clear hbk HRD
      go_wp2_with fail
      refine wp_region_holds hWs HX (by kernel_rfl) (by kernel_rfl) ?_
      (repeat (go_big_quiet_step (fail))); refine wpQuiet_nil ?_; intro _ hw'; obtain ⟨nq, hw''⟩ := hw'; subst hw''
      have H8 := Lib.hid (hW nq)
      clear r0 r1 r2 r3 r4 r5 hW hWs HX
      go_wp2_with fail
      go_roundw
      case rel => exact ⟨k + 1, by omega, by go_num, H8.out⟩
      case measure => simp [Go.RowKit.intOf]; omega
    · obtain rfl : k = len := by omega
      have HD := Lib.hid HX.drop
      clear HX
      go_wp2_with fail
      go_ret
      exact ⟨rfl, HD.out⟩
end
end Go.Proofs.Ytjbphdjheklhbaa
