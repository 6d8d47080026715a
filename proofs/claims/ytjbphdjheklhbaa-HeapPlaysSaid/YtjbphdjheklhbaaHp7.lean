/-
  Package heap: Alloc.
-/
import Derived.Test.YtjbphdjheklhbaaHp6
namespace Go.Proofs.Ytjbphdjheklhbaa
open Go.RowKit

theorem find_stop {α : Type} {p : α → Bool} {l : List α} {k : Nat} {x : α} (hk : l[k]? = some x) (h0 : ∀ j y, j < k → l[j]? = some y → p y = false) (hx : p x = true) : l.find? p = some x := by
  rw [List.find?_eq_some_iff_getElem]
  obtain ⟨hl, he⟩ := List.getElem?_eq_some_iff.1 hk
  refine ⟨hx, k, hl, he, fun j hj => ?_⟩
  simp [h0 j _ hj (List.getElem?_eq_getElem (by omega))]
theorem find_none {α : Type} {p : α → Bool} {l : List α} (h0 : ∀ (j : Nat) y, l[j]? = some y → p y = false) : l.find? p = none := by
  rw [List.find?_eq_none]
  intro y hy
  obtain ⟨j, hj⟩ := List.mem_iff_getElem?.1 hy
  simp [h0 j y hj]

section
variable {e : Env} {w : World} {R : List HP} {m n : Nat} {M : List Pg}
theorem hpAllocBad {h : Nat} (k : Int) (hk : k < 1 ∨ 65528 < k) : Calls Try.prog 17 #[.pointer (some ⟨h, 0, none⟩), .int .i64 k] w (Quiet w (.tuple #[.int .u64 0, .int .i64 1])) := by
  rcases hk with hk | hk
  · go_enter Try.func17, Try.ntmps17
    go_wp2_with fail
    go_ret2
    exact ⟨rfl, 0, rfl⟩
  · have h2 : 1 ≤ k := by omega
    go_enter Try.func17, Try.ntmps17
    go_wp2_with fail
    go_ret2
    exact ⟨rfl, 0, rfl⟩

set_option maxRecDepth 100000 in
set_option maxHeartbeats 2000000 in
theorem hpAlloc {h base size : Nat} (k : Nat) (hk1 : 1 ≤ k) (hk2 : k ≤ 65528) {l : List BlkS} (F : Fl n M) (hsz : base + size ≤ 4096 * n) (hs6 : size ≤ 65536) (hl : blks M base size size 0 = .ok l) (hfit : ∀ b ∈ l, b.o + b.size ≤ size ∧ b.size % 16 = 0)
    (H : Holds e w (pts h (hpObj m base size) :: modH m M :: R)) :
    Calls Try.prog 17 #[.pointer (some ⟨h, 0, none⟩), .int .i64 k] w
      (Ret e (allocV base (l.find? (fits (up16 (k + 8))))) (pts h (hpObj m base size) :: modH m (allocM M base (up16 (k + 8)) (l.find? (fits (up16 (k + 8))))) :: R)) := by
  have hsm := F.small
  have CB := Lib.hid (hpBlocks (by omega) hs6 H)
  rw [hl] at CB
  have hok := listOf_ok M base size
  rw [hl] at hok
  simp only [listOf, errOf] at CB hok
  obtain ⟨hu1, hu2, hu3⟩ := up16_bd (n := k + 8) (by omega)
  have CU : Hid (∀ w' X, Holds e w' X → Calls Try.prog 49 #[.int .i64 ((k + 8 : Nat) : Int), .int .i64 16] w' (Ret e (.int .i64 (up16 (k + 8))) X)) := Lib.hid fun w' X h' => retQ (numUp (k + 8) (by omega) (by omega)) h'
  have e1 : (k : Int) + 8 = ((k + 8 : Nat) : Int) := by omega
  obtain ⟨k8, hk8⟩ : ∃ k8, k + 8 = k8 := ⟨_, rfl⟩
  rw [hk8] at e1 CU hu1 hu2 hu3 ⊢
  obtain ⟨need, hneed⟩ : ∃ need, up16 k8 = need := ⟨_, rfl⟩
  rw [hneed] at CU hu1 hu2 hu3 ⊢
  have CT : Hid (∀ w' X b, b ∈ l → need ≤ b.size → Holds e w' (pts h (hpObj m base size) :: modH m M :: X) → Calls Try.prog 50 #[.pointer (some ⟨h, 0, none⟩), b.val base, .int .i64 need] w'
      (Ret e (.tuple #[.int .u64 ((base + b.o + 8 : Nat) : Int), .int .i64 0]) (pts h (hpObj m base size) :: modH m (takeM M base b need) :: X))) := Lib.hid fun w' X b hb h1 h' =>
    hpTake b F hsz hs6 (hfit b hb).1 (by omega) h1 hu3 (hfit b hb).2 h'
  obtain ⟨hbs, hll⟩ := hok
  have HBS := Lib.hid hbs
  obtain ⟨len, hlen⟩ : ∃ len, l.length = len := ⟨_, rfl⟩
  rw [hlen] at CB hll
  have hneed2 : need ≤ 65600 := by omega
  have d2 : decide ((65528 : Int) < (k : Int)) = false := by simp; omega
  clear H hbs hk8 hneed hl hfit
  go_enter Try.func17, Try.ntmps17
  go_wp2_with fail
  refine CB.out.mono ?_
  rintro en w1 ⟨v, rfl, H1⟩
  obtain ⟨av, cv, rfl⟩ := row_shape H1
  clear CB
  go_wp2_with fail
  refine (CU.out _ _ H1).mono ?_
  rintro en w2 ⟨rfl, H2⟩
  clear CU H1
  go_wp2_with fail
  go_loopw [34] (fun i wr => ∃ j : Nat, j ≤ len ∧ i = .int .i64 (j : Nat) ∧ Hid (∀ i y, i < j → l[i]? = some y → fits need y = false) ∧ Holds e wr (row (.slice av len cv) 53 3 len (l.flatMap (bcells base)) :: pts h (hpObj m base size) :: modH m M :: R)) (fun i _ => len - (Go.RowKit.intOf i).toNat)
  case atStart => exact ⟨0, by omega, rfl, Lib.hid (fun i y hi => by omega), H2⟩
  case round =>
    obtain ⟨j, hj, rfl, hz, HX⟩ := hrel
    by_cases hlt : j < len
    · obtain ⟨b, hbk⟩ : ∃ b, l[j]? = some b := ⟨_, List.getElem?_eq_getElem (by omega)⟩
      have hbm := List.mem_of_getElem? hbk
      obtain ⟨hb1, hb2, hb3⟩ := HBS.out b hbm
      obtain ⟨g, of', rfl, hr⟩ := (row.reads HX).at (by omega)
      have c0 : wr.cell? ⟨g, of' + j * 3, none⟩ = some (.int .u64 ((base + b.o + 8 : Nat) : Int)) := hr _ _ (bcells_at hbk 0 (by omega))
      have c1 : wr.cell? ⟨g, of' + j * 3 + 1, none⟩ = some (.int .i64 b.size) := by rw [Nat.add_assoc]; exact hr _ _ (bcells_at hbk 1 (by omega))
      have c2 : wr.cell? ⟨g, of' + j * 3 + 2, none⟩ = some (.bool b.used) := by rw [Nat.add_assoc]; exact hr _ _ (bcells_at hbk 2 (by omega))
      have HST : Hid (fits need b = true → l.find? (fits need) = some b) := Lib.hid fun hf => find_stop hbk (fun i y hi hy => hz.out i y hi hy) hf
      have HZ : Hid (fits need b = false → ∀ i y, i < j + 1 → l[i]? = some y → fits need y = false) := Lib.hid fun hf i y hi hy => by
        rcases Nat.lt_succ_iff_lt_or_eq.1 hi with hi | rfl
        · exact hz.out i y hi hy
        · rw [hbk] at hy; cases hy; exact hf
      have CTb := Lib.hid (fun w' X h1 h' => CT.out w' X b hbm h1 h')
      unfold BlkS.val at CTb
      obtain ⟨bo, bs, bu⟩ := b
      dsimp only at *
      obtain ⟨t, ht⟩ : ∃ t, base + bo + 8 = t := ⟨_, rfl⟩
      rw [ht] at c0 CTb
      have HN := (HX.alloc (.cells #[.int .u64 t, .int .i64 bs, .bool bu] 53))
      have HD := Lib.hid HN.drop
      cases bu
      · by_cases hge : need ≤ bs
        · have hf := HST.out (by unfold fits; simp; exact hge)
          have d3 : decide ((need : Int) ≤ (bs : Int)) = true := by simp; omega
          have HA : Hid (allocV base (l.find? (fits need)) = .tuple #[.int .u64 t, .int .i64 0] ∧ allocM M base need (l.find? (fits need)) = takeM M base ⟨bo, bs, false⟩ need) := Lib.hid (by
            rw [hf]; unfold allocV allocM; dsimp only; rw [ht]; exact ⟨rfl, rfl⟩)
          have HP : Holds e (wr.alloc (.cells #[.int .u64 t, .int .i64 bs, .bool false] 53)) (pts h (hpObj m base size) :: modH m M :: row (.slice (some ⟨g, of', none⟩) len cv) 53 3 len (l.flatMap (bcells base)) :: R) := HN.re 4 [2, 3, 1]
          clear hr hbk ht HX HN HZ HST hz hf HD
          go_wp2_with fail
          refine (CTb.out _ _ hge HP).mono ?_
          rintro en w3 ⟨rfl, H3⟩
          have H4 := Lib.hid H3.d2
          clear H3 HP CTb
          go_wp2_with fail
          go_ret2
          exact ⟨by rw [HA.out.1]; rfl, by rw [HA.out.2]; exact H4.out⟩
        · have hf := HZ.out (by unfold fits; simp; omega)
          have HF := Lib.hid hf
          have d3 : decide ((need : Int) ≤ (bs : Int)) = false := by simp; omega
          clear hr hbk ht HX HN HZ HST hz hf CTb
          go_wp2_with fail
          go_roundw
          case rel => exact ⟨j + 1, by omega, by go_num, HF, HD.out⟩
          case measure => simp [Go.RowKit.intOf]; omega
      · have hf := HZ.out (by unfold fits; simp)
        have HF := Lib.hid hf
        clear hr hbk ht HX HN HZ HST hz hf CTb
        go_wp2_with fail
        go_roundw
        case rel => exact ⟨j + 1, by omega, by go_num, HF, HD.out⟩
        case measure => simp [Go.RowKit.intOf]; omega
    · obtain rfl : j = len := by omega
      have HA : Hid (l.find? (fits need) = none) := Lib.hid (find_none fun i y hy => hz.out i y (by have := (List.getElem?_eq_some_iff.1 hy).1; omega) hy)
      have HD := Lib.hid HX.drop
      clear HX hz
      go_wp2_with fail
      go_ret2
      exact ⟨by rw [HA.out]; rfl, by rw [HA.out]; exact HD.out⟩
end
end Go.Proofs.Ytjbphdjheklhbaa
