/-
  The reference of layer 3: a list, the oldest one first.
-/
import Derived.Test.YtfjdgjdkpmljkaaRow2
namespace Go.Proofs.Ytfjdgjdkpmljkaa
open Go.RowKit

def atI (xs : List Int) (z : Int) : Int := if z ∈ xs then xs.idxOf z else -1
theorem atI_some {xs : List Int} {z : Int} {k : Nat} (hk : k < xs.length) (he : xs.getD k 0 = z) (hn : ∀ j, j < k → xs.getD j 0 ≠ z) : atI xs z = k := by
  have hz : xs[k] = z := by simpa [List.getD, List.getElem?_eq_getElem hk] using he
  unfold atI
  rw [if_pos (by rw [← hz]; exact List.getElem_mem hk)]
  have h1 : xs.idxOf z = k := by
    rw [List.idxOf, List.findIdx_eq hk]
    refine ⟨by simp [hz], fun j hj => ?_⟩
    have := hn j hj
    simp only [List.getD, List.getElem?_eq_getElem (show j < xs.length by omega), Option.getD_some] at this
    simpa using this
  omega
theorem atI_none {xs : List Int} {z : Int} (hn : ∀ j, j < xs.length → xs.getD j 0 ≠ z) : atI xs z = -1 := by
  unfold atI
  rw [if_neg]
  intro hm
  obtain ⟨j, hj, rfl⟩ := List.getElem_of_mem hm
  exact hn j hj (by simp [List.getD, List.getElem?_eq_getElem hj])
theorem atI_cases (xs : List Int) (z : Int) : (z ∉ xs ∧ atI xs z = -1) ∨ ∃ k : Nat, z ∈ xs ∧ k < xs.length ∧ atI xs z = k ∧ xs.erase z = xs.take k ++ xs.drop (k + 1) := by
  by_cases h : z ∈ xs
  · refine .inr ⟨xs.idxOf z, h, List.idxOf_lt_length_iff.2 h, if_pos h, ?_⟩
    rw [List.erase_eq_eraseIdx_of_idxOf rfl, List.eraseIdx_eq_take_drop_succ]
  · exact .inl ⟨h, if_neg h⟩

section
variable {e : Env} {w : World} {R : List HP} {v : Value} {x : List Int}

def NotAtI (x : List Int) (h : Int) (k : Nat) : Prop := ∀ j, j < k → x.getD j 0 ≠ h

set_option maxHeartbeats 400000 in
theorem at3_any (x : List Int) (v : Value) (h : Int) (hb : x.length ≤ 4611686018427387904) (hr : Reads w v 1 x.length (ints x)) : Calls Try.prog 61 #[v, .int .i64 h] w (Quiet w (.int .i64 (atI x h))) := by
  obtain ⟨ad, c, rfl⟩ := hr.shape
  go_enter Try.func61, Try.ntmps61
  go_wp2
  go_loop [5] (fun i => ∃ k : Nat, k ≤ x.length ∧ i = .int .i64 (k : Nat) ∧ NotAtI x h k) (fun i => x.length - (intOf i).toNat)
  case atStart => exact ⟨0, by omega, rfl, fun j hj => absurd hj (by omega)⟩
  case round =>
    obtain ⟨k, hk, rfl, hn⟩ := hrel
    have HN := Lib.hid hn; clear hn
    by_cases hlt : k < x.length
    · obtain ⟨g, o, rfl, hc⟩ := hr.at (by omega)
      have c0 := hc k (.int .i64 (x.getD k 0)) (ints_get (by simp [List.getD, List.getElem?_eq_getElem hlt]))
      clear hc
      by_cases hq : x.getD k 0 = h
      · have hv := Lib.hid (atI_some hlt hq HN.out)
        generalize x.getD k 0 = y at *
        have hq' : (y == h) = true := by simp [hq]
        clear hq
        go_wp2
        go_ret
        exact ⟨by rw [hv.out]; rfl, 0, rfl⟩
      · have hnx : NotAtI x h (k + 1) := fun j hj => by
          by_cases hj' : j = k
          · subst hj'; exact hq
          · exact HN.out j (by omega)
        generalize x.getD k 0 = y at *
        have hq' : (y == h) = false := by simp [hq]
        clear hq
        go_wp2
        go_round
        case rel => exact ⟨k + 1, by omega, by go_num, hnx⟩
        case measure => simp [intOf]; omega
    · have hv := Lib.hid (atI_none (xs := x) (z := h) (fun j hj => HN.out j (by omega)))
      go_wp2
      go_ret
      exact ⟨by rw [hv.out]; rfl, 0, rfl⟩

theorem ints_take (x : List Int) (k : Nat) : ints (x.take k) = (ints x).take (k * 1) := by simp [ints, List.map_take]
theorem ints_drop (x : List Int) (k : Nat) : ints (x.drop k) = (ints x).drop (k * 1) := by simp [ints, List.map_drop]

set_option maxHeartbeats 400000 in
theorem drop3_no (H : Holds e w R) (x : List Int) (v : Value) (hb : x.length ≤ 1000000) (h : Int) (hn : h ∉ x) (hrR : ∀ w', Holds e w' R → Reads w' v 1 x.length (ints x)) :
    Calls Try.prog 49 #[v, .int .i64 h] w (Ret e (.tuple #[v, .bool false]) R) := by
  have hat : atI x h = -1 := if_neg hn
  have c1 := at3_any x v h (by omega) (hrR w H)
  rw [hat] at c1
  go_enter Try.func49, Try.ntmps49
  go_wp2_with fail
  refine (retQ c1 H).mono ?_
  rintro e w2 ⟨rfl, H2⟩
  go_wp2
  go_ret2
  exact ⟨rfl, H2⟩

set_option maxRecDepth 100000 in
set_option maxHeartbeats 800000 in
theorem drop3_yes (H : Holds e w R) (x : List Int) (v : Value) (hb : x.length ≤ 1000000) (h : Int) (k : Nat) (hk : k < x.length) (hn : atI x h = k) (hrR : ∀ w', Holds e w' R → Reads w' v 1 x.length (ints x)) :
    Calls Try.prog 49 #[v, .int .i64 h] w (RetEx e (fun v' => .tuple #[v', .bool true]) (fun v' => row v' 3 1 (x.length - 1) (ints (x.take k ++ x.drop (k + 1))) :: R)) := by
  have c1 := at3_any x v h (by omega) (hrR w H)
  rw [hn] at c1
  have HRR := Lib.hid hrR
  obtain ⟨ad, c, rfl⟩ := (hrR w H).shape
  have hcap : x.length ≤ c := by
    rcases (hrR w H).2 with ⟨h, h'⟩ | ⟨a', c', h, h', _⟩
    · omega
    · cases h; exact h'
  obtain ⟨g, o, rfl, _⟩ := (hrR w H).at (by omega)
  clear hn hrR
  by_cases hc : c = k + 1
  · subst hc
    have hx0 : x.length - (k + 1) = 0 := by omega
    have hxd : x.drop (k + 1) = [] := List.drop_of_length_le (by omega)
    have HX0 := Lib.hid hx0
    have HXD := Lib.hid hxd
    clear hx0 hxd
    go_enter Try.func49, Try.ntmps49
    go_wp2_with fail
    refine (retQ c1 H).mono ?_
    rintro e w2 ⟨rfl, H2⟩
    go_wp2_with (at_builtin; refine wpList_append_sl rfl (.tmp 14) _ _ rfl 3 1 8 elem_int _ 0 [] rfl (row.made (H2.alloc _) (Nat.le_refl _) (by decide) rfl rfl) _ k (ints (x.take k)) rfl ?_ (ints_one _) ?_ ?_ ?_)
    · rw [ints_take]; exact reads_take (HRR.out _ (H2.alloc _).drop) (by omega)
    · unfold maxLen; omega
    · omega
    intro v3 w3 H3
    have hr3 := HRR.out _ H3.drop
    have f3 : k + 1 ≤ x.length := by omega
    have hrd : Reads w3 (.slice (some ⟨g, o, none⟩) 0 0) 1 0 (ints []) := reads_none' _ _ _ _
    have hs1 : (k : Int) + 1 ≤ (x.length : Int) := by omega
    have hs2 : (0 : Int) ≤ (k : Int) + 1 := by omega
    have hs3 : ((k : Int) + 1).toNat = k + 1 := by omega
    have hs4 : IntKind.i64.wrap ((k : Int) + 1) = (k : Int) + 1 := IntWalk.i64_in _ (by omega)
    go_wp2_with (at_builtin; refine wpList_append_sl rfl (.tmp 19) _ _ rfl 3 1 8 elem_int v3 k (ints (x.take k)) rfl H3 (.slice (some ⟨g, o, none⟩) 0 0) 0 (ints []) rfl ?_ (ints_one _) ?_ ?_ ?_)
    · exact hrd
    · unfold maxLen; omega
    · omega
    intro v4 w4 H4
    rw [← ints_append] at H4
    go_wp2
    go_ret2
    exact ⟨_, rfl, by rw [HXD.out]; exact row_len H4 (by have := HX0.out; omega)⟩
  · have hck : ¬ c = k + 1 := by omega
    clear hc
    go_enter Try.func49, Try.ntmps49
    go_wp2_with fail
    refine (retQ c1 H).mono ?_
    rintro e w2 ⟨rfl, H2⟩
    go_wp2_with (at_builtin; refine wpList_append_sl rfl (.tmp 14) _ _ rfl 3 1 8 elem_int _ 0 [] rfl (row.made (H2.alloc _) (Nat.le_refl _) (by decide) rfl rfl) _ k (ints (x.take k)) rfl ?_ (ints_one _) ?_ ?_ ?_)
    · rw [ints_take]; exact reads_take (HRR.out _ (H2.alloc _).drop) (by omega)
    · unfold maxLen; omega
    · omega
    intro v3 w3 H3
    have hr3 := HRR.out _ H3.drop
    have f3 : k + 1 ≤ x.length := by omega
    have hrd : Reads w3 (.slice (some ⟨g, o + (k + 1), none⟩) (x.length - (k + 1)) (c - (k + 1))) 1 (x.length - (k + 1)) (ints (x.drop (k + 1))) := (by have hq := reads_drop hr3 f3; rw [← ints_drop, Nat.mul_one] at hq; exact hq)
    have hs1 : (k : Int) + 1 ≤ (x.length : Int) := by omega
    have hs2 : (0 : Int) ≤ (k : Int) + 1 := by omega
    have hs3 : ((k : Int) + 1).toNat = k + 1 := by omega
    have hs4 : IntKind.i64.wrap ((k : Int) + 1) = (k : Int) + 1 := IntWalk.i64_in _ (by omega)
    go_wp2_with (at_builtin; refine wpList_append_sl rfl (.tmp 19) _ _ rfl 3 1 8 elem_int v3 k (ints (x.take k)) rfl H3 (.slice (some ⟨g, o + (k + 1), none⟩) (x.length - (k + 1)) (c - (k + 1))) (x.length - (k + 1)) (ints (x.drop (k + 1))) rfl ?_ (ints_one _) ?_ ?_ ?_)
    · exact hrd
    · unfold maxLen; omega
    · omega
    intro v4 w4 H4
    rw [← ints_append] at H4
    go_wp2
    go_ret2
    exact ⟨_, rfl, row_len H4 (by omega)⟩

theorem drop3_any (H : Holds e w R) (x : List Int) (v : Value) (hb : x.length ≤ 1000000) (h : Int) (hrR : ∀ w', Holds e w' R → Reads w' v 1 x.length (ints x)) :
    (h ∉ x ∧ Calls Try.prog 49 #[v, .int .i64 h] w (Ret e (.tuple #[v, .bool false]) R)) ∨
    (h ∈ x ∧ Calls Try.prog 49 #[v, .int .i64 h] w (RetEx e (fun v' => .tuple #[v', .bool true]) (fun v' => row v' 3 1 (x.erase h).length (ints (x.erase h)) :: R))) := by
  rcases atI_cases x h with ⟨h1, h2⟩ | ⟨k, h1, h2, h3, h4⟩
  · exact .inl ⟨h1, drop3_no H x v hb h h1 hrR⟩
  · refine .inr ⟨h1, ?_⟩
    rw [h4, show (x.take k ++ x.drop (k + 1)).length = x.length - 1 by simp; omega]
    exact drop3_yes H x v hb h k h2 h3 hrR

/-- What a list is behind a Drop, a Push. -/
def dropL (x : List Int) (z : Int) : List Int := x.erase z
def pushL (x : List Int) (size z : Int) : List Int := if 0 ≤ z ∧ z < size then x.erase z ++ [z] else x

theorem dropRow (H : Holds e w (row v 3 1 x.length (ints x) :: R)) (hb : x.length ≤ 1000000) (h : Int) :
    Calls Try.prog 49 #[v, .int .i64 h] w (RetEx e (fun v' => .tuple #[v', .bool (decide (h ∈ x))]) (fun v' => row v' 3 1 (dropL x h).length (ints (dropL x h)) :: R)) := by
  unfold dropL
  rcases drop3_any H x v hb h (fun w' h => row.reads h) with ⟨h1, h2⟩ | ⟨h1, h2⟩
  · rw [decide_eq_false h1, List.erase_of_not_mem h1]
    exact h2.mono fun en w' ⟨h3, h4⟩ => ⟨v, h3, h4⟩
  · rw [decide_eq_true h1]
    exact h2.mono fun en w' ⟨v', h3, h4⟩ => ⟨v', h3, h4.swap.drop⟩

set_option maxHeartbeats 800000 in
theorem pushRow (H : Holds e w (row v 3 1 x.length (ints x) :: R)) (hb : x.length ≤ 100000) (size h : Int) :
    Calls Try.prog 50 #[v, .int .i64 size, .int .i64 h] w (RetEx e (fun v' => .tuple #[v', .bool (decide (0 ≤ h ∧ h < size))]) (fun v' => row v' 3 1 (pushL x size h).length (ints (pushL x size h)) :: R)) := by
  unfold pushL
  by_cases hh : 0 ≤ h ∧ h < size
  · rw [if_pos hh, decide_eq_true hh]
    obtain ⟨h1, h2⟩ := hh
    have c1 := dropRow H (by omega) h
    unfold dropL at c1
    have hle : (x.erase h).length ≤ x.length := List.length_erase_le
    generalize x.erase h = y at *
    go_enter Try.func50, Try.ntmps50
    go_wp2_with fail
    refine c1.mono ?_
    rintro e w2 ⟨v2, rfl, H2⟩
    obtain ⟨a2, c2, rfl⟩ := row_shape H2
    go_wp2_with (at_builtin; refine wpList_append_sl rfl (.tmp 24) _ _ rfl 3 1 8 elem_int _ 0 [] rfl (row.made (H2.alloc _) (Nat.le_refl _) (by decide) rfl rfl) _ y.length (ints y) rfl ?_ (ints_one _) ?_ ?_ ?_)
    · exact row.reads (H2.alloc _).drop
    · unfold maxLen; omega
    · omega
    intro v3 w3 H3
    obtain ⟨a3, c3, rfl⟩ := row_shape H3
    go_wp2_with (at_builtin; refine wpList_append_sl rfl (.tmp 26) _ _ rfl 3 1 8 elem_int _ y.length (ints y) rfl (H3.alloc _).swap _ 1 (ints [h]) rfl ?_ (ints_one _) ?_ ?_ ?_)
    · exact reads_lit _ [h] _ _ rfl
    · unfold maxLen; omega
    · omega
    intro v4 w4 H4
    rw [← ints_append] at H4
    obtain ⟨a4, c4, rfl⟩ := row_shape H4
    go_wp2
    go_ret2
    exact ⟨_, rfl, row_len (H4.swap.drop.swap.drop) (by simp)⟩
  · rw [if_neg hh, decide_eq_false hh]
    rcases (by omega : h < 0 ∨ (0 ≤ h ∧ size ≤ h)) with h1 | ⟨h1, h2⟩
    all_goals
      clear hh
      go_enter Try.func50, Try.ntmps50
      go_wp2
      go_ret2
      exact ⟨v, rfl, H⟩

theorem size3_any (w : World) (s : Int) : Calls Try.prog 51 #[.int .i64 s] w (Quiet w (.int .i64 (max 0 (min 4096 s)))) := by
  rcases (by omega : (s < 0 ∧ max 0 (min 4096 s) = 0) ∨ (0 ≤ s ∧ 4096 < s ∧ max 0 (min 4096 s) = 4096) ∨ (0 ≤ s ∧ s ≤ 4096 ∧ max 0 (min 4096 s) = s)) with ⟨h, h2⟩ | ⟨h, h1, h2⟩ | ⟨h, h1, h2⟩
  all_goals
    rw [h2]
    clear h2
    go_enter Try.func51, Try.ntmps51
    go_wp2
    go_ret
    exact ⟨rfl, 0, rfl⟩
end
end Go.Proofs.Ytfjdgjdkpmljkaa
