/-
  Contracts of the reference of layer 19, and of gunnyref02.Ints.
-/
import Derived.Test.YtfjdgjdkpmljkaaHanK
import Derived.Deep.RegionLaw
namespace Go.Proofs.Ytfjdgjdkpmljkaa
open Go.RowKit

abbrev HE := Int × PlaceS
def hCells (x : List HE) : List Value := x.flatMap fun q => [.int .i64 q.1, .int .i64 q.2.page, .int .i64 q.2.obj, .int .i64 q.2.len]
def HE.comp (q : HE) : Nat → Int
  | 0 => q.1
  | j + 1 => q.2.comp j
theorem hCells_append (L M : List HE) : hCells (L ++ M) = hCells L ++ hCells M := by simp [hCells]
theorem hCells_length : ∀ L : List HE, (hCells L).length = L.length * 4
  | [] => rfl
  | p :: L => by
    have := hCells_length L
    simp only [hCells, List.flatMap_cons, List.length_append, List.length_cons, List.length_nil] at this ⊢
    omega
theorem hCells_one (L : List HE) : ∀ u ∈ hCells L, u.oneCell' = true := by
  intro u hu
  simp only [hCells, List.mem_flatMap, List.mem_cons, List.not_mem_nil, or_false] at hu
  obtain ⟨p, _, rfl | rfl | rfl | rfl⟩ := hu <;> rfl
theorem hCells_get : ∀ (L : List HE) (k j : Nat), k < L.length → j < 4 → (hCells L)[k * 4 + j]? = some (.int .i64 (HE.comp (L.getD k (0, PlaceS.zero)) j))
  | [], k, j, h, _ => by simp at h
  | p :: L, 0, j, _, hj => by
    have : j = 0 ∨ j = 1 ∨ j = 2 ∨ j = 3 := by omega
    rcases this with rfl | rfl | rfl | rfl <;> rfl
  | p :: L, k + 1, j, h, hj => by
    have := hCells_get L k j (by simpa using h) hj
    simp only [hCells, List.flatMap_cons] at this ⊢
    rw [show (k + 1) * 4 + j = 4 + (k * 4 + j) by omega]
    rw [List.getElem?_append_right (by simp)]
    simpa using this

theorem reads_h {w : World} {g o m c k : Nat} {L : List HE} (h : Reads w (.slice (some ⟨g, o, none⟩) m c) 4 m (hCells L)) (hk : k < L.length) :
    w.cell? ⟨g, o + k * 4, none⟩ = some (.int .i64 (L.getD k (0, PlaceS.zero)).1) ∧ w.cell? ⟨g, o + k * 4 + 1, none⟩ = some (.int .i64 (L.getD k (0, PlaceS.zero)).2.page) ∧ w.cell? ⟨g, o + k * 4 + 2, none⟩ = some (.int .i64 (L.getD k (0, PlaceS.zero)).2.obj) ∧ w.cell? ⟨g, o + k * 4 + 3, none⟩ = some (.int .i64 (L.getD k (0, PlaceS.zero)).2.len) := by
  have hl := h.len
  rw [hCells_length] at hl
  obtain ⟨b', o', hb, hc⟩ := h.at (by omega)
  cases hb
  exact ⟨hc _ _ (hCells_get L k 0 hk (by omega)), hc _ _ (hCells_get L k 1 hk (by omega)), hc _ _ (hCells_get L k 2 hk (by omega)), hc _ _ (hCells_get L k 3 hk (by omega))⟩

theorem elem_h : ElemOf Try.prog 70 113 4 32 := ElemOf.mk (z := .agg #[.int .i64 0, .int .i64 0, .int .i64 0, .int .i64 0]) (by kernel_rfl) (by kernel_rfl) rfl (by decide)

/-- The place of a handle in the list, from place i on; -1. -/
def atR (x : List HE) (h : Int) : Int := match x.findIdx? (fun q => q.1 == h) with
  | some i => i
  | none => -1

theorem atR_none {x : List HE} {h : Int} (hn : ∀ k, k < x.length → (x.getD k (0, PlaceS.zero)).1 ≠ h) : atR x h = -1 := by
  have : x.findIdx? (fun q => q.1 == h) = none := by
    rw [List.findIdx?_eq_none_iff]
    intro q hq
    obtain ⟨i, hi, rfl⟩ := List.getElem_of_mem hq
    have := hn i hi
    simp [List.getD, List.getElem?_eq_getElem hi] at this
    simpa using this
  unfold atR
  rw [this]
theorem atR_some {x : List HE} {h : Int} {k : Nat} (hk : k < x.length) (he : (x.getD k (0, PlaceS.zero)).1 = h) (hn : ∀ j, j < k → (x.getD j (0, PlaceS.zero)).1 ≠ h) : atR x h = k := by
  have : x.findIdx? (fun q => q.1 == h) = some k := by
    rw [List.findIdx?_eq_some_iff_getElem]
    refine ⟨hk, ?_, fun j hj => ?_⟩
    · simpa [List.getD, List.getElem?_eq_getElem hk] using he
    · have := hn j hj
      simpa [List.getD, List.getElem?_eq_getElem (show j < x.length by omega)] using this
  unfold atR
  rw [this]
theorem atR_cases (x : List HE) (h : Int) : (atR x h = -1 ∧ ∀ k, k < x.length → (x.getD k (0, PlaceS.zero)).1 ≠ h) ∨ ∃ k, k < x.length ∧ atR x h = k ∧ (x.getD k (0, PlaceS.zero)).1 = h := by
  unfold atR
  cases hf : x.findIdx? (fun q => q.1 == h) with
  | none =>
    left
    refine ⟨rfl, fun k hk => ?_⟩
    have := (List.findIdx?_eq_none_iff.1 hf) x[k] (List.getElem_mem _)
    simpa [List.getD, List.getElem?_eq_getElem hk] using this
  | some k =>
    right
    obtain ⟨hk, h1, _⟩ := List.findIdx?_eq_some_iff_getElem.1 hf
    exact ⟨k, hk, rfl, by simpa [List.getD, List.getElem?_eq_getElem hk] using h1⟩

theorem hCells_take (x : List HE) (k : Nat) : hCells (x.take k) = (hCells x).take (k * 4) := by
  by_cases hk : k ≤ x.length
  · have h := congrArg (List.take (k * 4)) (hCells_append (x.take k) (x.drop k))
    rw [List.take_append_drop] at h
    rw [h, List.take_left' (by rw [hCells_length, List.length_take]; omega)]
  · rw [List.take_of_length_le (by omega), List.take_of_length_le (by rw [hCells_length]; omega)]
theorem hCells_drop (x : List HE) (k : Nat) (hk : k ≤ x.length) : hCells (x.drop k) = (hCells x).drop (k * 4) := by
  have h := congrArg (List.drop (k * 4)) (hCells_append (x.take k) (x.drop k))
  rw [List.take_append_drop] at h
  rw [h, List.drop_left' (by rw [hCells_length, List.length_take]; omega)]

theorem reads_take {w : World} {a : Addr} {size n c k : Nat} {xs : List Value} (h : Reads w (.slice (some a) n c) size n xs) (hk : k ≤ n) : Reads w (.slice (some a) k c) size k (xs.take (k * size)) := by
  obtain ⟨h1, h2⟩ := h
  refine ⟨by rw [List.length_take, h1]; exact Nat.min_eq_left (Nat.mul_le_mul_right _ hk), .inr ⟨a, c, rfl, ?_, fun j u hj => ?_⟩⟩
  · rcases h2 with ⟨h, rfl⟩ | ⟨a', c', h, h', _⟩
    · cases h
    · cases h; omega
  · rcases h2 with ⟨h, rfl⟩ | ⟨a', c', h, h', hr⟩
    · cases h
    · cases h; exact hr j u (take_get hj).1
theorem reads_drop {w : World} {g o size n c k : Nat} {xs : List Value} (h : Reads w (.slice (some ⟨g, o, none⟩) n c) size n xs) (hk : k ≤ n) : Reads w (.slice (some ⟨g, o + k * size, none⟩) (n - k) (c - k)) size (n - k) (xs.drop (k * size)) := by
  obtain ⟨h1, h2⟩ := h
  refine ⟨by rw [List.length_drop, h1, Nat.sub_mul], .inr ⟨⟨g, o + k * size, none⟩, c - k, rfl, ?_, fun j u hj => ?_⟩⟩
  · rcases h2 with ⟨h, rfl⟩ | ⟨a', c', h, h', _⟩
    · cases h
    · cases h; omega
  · rcases h2 with ⟨h, rfl⟩ | ⟨a', c', h, h', hr⟩
    · cases h
    · cases h
      rw [List.getElem?_drop] at hj
      have := hr _ u hj
      rw [Addr.add_at] at this ⊢
      rw [← this]
      congr 2
      omega
theorem reads_none' (w : World) (a : Addr) (size c : Nat) : Reads w (.slice (some a) 0 c) size 0 [] := ⟨by simp, .inr ⟨a, c, rfl, Nat.zero_le _, fun j u hj => by cases hj⟩⟩

def NotAt (x : List HE) (h : Int) (k : Nat) : Prop := ∀ j, j < k → (x.getD j (0, PlaceS.zero)).1 ≠ h

section
variable {e : Env} {w : World} {R : List HP}

set_option maxHeartbeats 400000 in
theorem atR_any (x : List HE) (v : Value) (h : Int) (hb : x.length ≤ 4611686018427387904) (hr : Reads w v 4 x.length (hCells x)) : Calls Try.prog 70 #[v, .int .i64 h] w (Quiet w (.int .i64 (atR x h))) := by
  obtain ⟨ad, c, rfl⟩ := hr.shape
  go_enter Try.func70, Try.ntmps70
  go_wp2
  go_loop [5] (fun i => ∃ k : Nat, k ≤ x.length ∧ i = .int .i64 (k : Nat) ∧ NotAt x h k) (fun i => x.length - (intOf i).toNat)
  case atStart => exact ⟨0, by omega, rfl, fun j hj => absurd hj (by omega)⟩
  case round =>
    obtain ⟨k, hk, rfl, hn⟩ := hrel
    have HN := Lib.hid hn; clear hn
    by_cases hlt : k < x.length
    · obtain ⟨g, o, rfl, _⟩ := hr.at (by omega)
      obtain ⟨c0, _, _, _⟩ := reads_h hr hlt
      by_cases hq : (x.getD k (0, PlaceS.zero)).1 = h
      · have hv := Lib.hid (atR_some hlt hq HN.out)
        generalize (x.getD k (0, PlaceS.zero)).1 = y at *
        have hq' : (y == h) = true := by simp [hq]
        clear hq
        go_wp2
        go_ret
        exact ⟨by rw [hv.out]; rfl, 0, rfl⟩
      · have hnx : NotAt x h (k + 1) := fun j hj => by
          by_cases hj' : j = k
          · subst hj'; exact hq
          · exact HN.out j (by omega)
        generalize (x.getD k (0, PlaceS.zero)).1 = y at *
        have hq' : (y == h) = false := by simp [hq]
        clear hq
        go_wp2
        go_round
        case rel => exact ⟨k + 1, by omega, by go_num, hnx⟩
        case measure => simp [intOf]; omega
    · have hv := Lib.hid (atR_none (x := x) (h := h) (fun j hj => HN.out j (by omega)))
      go_wp2
      go_ret
      exact ⟨by rw [hv.out]; rfl, 0, rfl⟩

set_option maxHeartbeats 400000 in
theorem ints_same (xs : List Int) (v v' : Value) (hb : xs.length ≤ 4611686018427387904) (hr : Reads w v 1 xs.length (ints xs)) (hr' : Reads w v' 1 xs.length (ints xs)) : Calls Try.prog 45 #[v, v'] w (Quiet w (.bool true)) := by
  obtain ⟨ad, c, rfl⟩ := hr.shape
  obtain ⟨ad', c', rfl⟩ := hr'.shape
  go_enter Try.func45, Try.ntmps45
  go_wp2
  go_loopw [5] (fun i wr => ∃ k : Nat, k ≤ xs.length ∧ i = .int .i64 (k : Nat) ∧ ∃ m, wr = w.drewN m) (fun i _ => xs.length - (intOf i).toNat)
  case atStart => exact ⟨0, by omega, rfl, 0, rfl⟩
  case round =>
    obtain ⟨k, hk, rfl, m, rfl⟩ := hrel
    by_cases hlt : k < xs.length
    · obtain ⟨g, o, rfl, h1⟩ := hr.at (by omega)
      obtain ⟨g', o', rfl, h2⟩ := hr'.at (by omega)
      have c1 := h1 k _ (ints_get (List.getElem?_eq_getElem hlt))
      have c2 := h2 k _ (ints_get (List.getElem?_eq_getElem hlt))
      clear h1 h2
      go_wp2
      go_quiet (fail)
      go_wp2
      go_roundw
      case rel => exact ⟨k + 1, by omega, by go_num, _, rfl⟩
      case measure => simp [intOf]; omega
    · go_wp2
      go_ret
      exact ⟨rfl, _, rfl⟩

set_option maxHeartbeats 400000 in
theorem makeR_bad (H : Holds e w R) (v : Value) (p : PlaceS) (hp : ¬ p.ok) : Calls Try.prog 71 #[v, p.val] w (Ret e (.tuple #[v, .int .i64 0, .int .i64 1]) R) := by
  have hd : decide p.ok = false := by simpa using hp
  have c1 := hmayR (H.alloc (.cells #[.int .i64 p.page, .int .i64 p.obj, .int .i64 p.len] 31)) p
  rw [hd] at c1
  unfold PlaceS.val at c1 ⊢
  clear hd hp
  go_enter Try.func71, Try.ntmps71
  go_wp2_with fail
  refine c1.mono ?_
  rintro e w1 ⟨rfl, H1⟩
  go_wp2
  go_ret3
  exact ⟨rfl, H1.drop⟩

set_option maxHeartbeats 1000000 in
theorem makeR_ok (H : Holds e w R) (x : List HE) (v : Value) (hb : x.length ≤ 1000) (p : PlaceS) (hp : p.ok) (h0 : Nat) (h1 : 1 ≤ h0) (h2 : h0 ≤ 512) (hn : atR x h0 = -1) (hu : ∀ h', 1 ≤ h' → h' < h0 → 0 ≤ atR x (h' : Nat))
    (hrR : ∀ w', Holds e w' R → Reads w' v 4 x.length (hCells x)) :
    Calls Try.prog 71 #[v, p.val] w (RetEx e (fun v' => .tuple #[v', .int .i64 h0, .int .i64 0]) (fun v' => row v' 113 4 (x.length + 1) (hCells (x ++ [((h0 : Int), p)])) :: R)) := by
  have hd : decide p.ok = true := by simpa using hp
  have c1 := hmayR (H.alloc (.cells #[.int .i64 p.page, .int .i64 p.obj, .int .i64 p.len] 31)) p
  rw [hd] at c1
  unfold PlaceS.val at c1 ⊢
  have HN := Lib.hid hn; have HU := Lib.hid hu
  have HRR := Lib.hid hrR
  clear hd hp hn hu hrR
  go_enter Try.func71, Try.ntmps71
  go_wp2_with fail
  refine c1.mono ?_
  rintro e w1 ⟨rfl, H1⟩
  clear c1 H
  generalize w.heap.size = bx at *
  go_wp2
  go_loopw [7] (fun i wr => ∃ k : Nat, 1 ≤ k ∧ k ≤ h0 ∧ i = .int .i64 (k : Nat) ∧ Holds e wr (pts bx (.cells #[.int .i64 p.page, .int .i64 p.obj, .int .i64 p.len] 31 (0, 0)) :: R)) (fun i _ => h0 - (intOf i).toNat)
  case atStart => exact ⟨1, by omega, by omega, rfl, H1⟩
  case round =>
    obtain ⟨k, hk1, hk, rfl, HH⟩ := hrel
    by_cases hlt : k < h0
    · have hge := HU.out k hk1 hlt
      go_wp2_with fail
      refine (retQ (atR_any x v k (by omega) (HRR.out _ HH.drop)) HH).mono ?_
      generalize atR x (k : Int) = q at *
      rintro e w2 ⟨rfl, H2⟩
      go_wp2
      go_roundw
      case rel => exact ⟨k + 1, by omega, by omega, by go_num, H2⟩
      case measure => simp [intOf]; omega
    · obtain rfl : k = h0 := by omega
      go_wp2_with fail
      refine (retQ (atR_any x v k (by omega) (HRR.out _ HH.drop)) HH).mono ?_
      rw [HN.out]
      rintro e w2 ⟨rfl, H2⟩
      have hc2 := H2.cells
      have hlt2 := H2.lt
      clear HH
      go_wp2
      go_region_law (first | (refine step_append_sl rfl (.tmp 21) (.tmp 22) _ rfl 113 4 32 elem_h _ 0 [] rfl _ x.length (hCells x) rfl (hCells_one _) (by unfold maxLen; omega) (by omega) (by first | exact row.made (Holds.allocAt H2.drew (by simp)) (Nat.le_refl _) (by decide) rfl rfl | exact row.made (Holds.allocAt (H2.drew.alloc _) (by simp)) (Nat.le_refl _) (by decide) rfl rfl | exact row.made ((Holds.allocAt (b := w2.heap.size + 1) (Holds.allocAt H2.drew (by simp)) (by simp)).swap) (Nat.le_refl _) (by decide) rfl rfl) (by first | exact HRR.out _ (H2.drew.alloc _).drop.drop | exact HRR.out _ ((H2.drew.alloc _).alloc _).drop.drop.drop) ?_; intro v3 w3 H3; rw [Nat.zero_add, List.nil_append] at H3; have hc3 : ∀ i, w3.cell? ⟨bx, i, none⟩ = (#[.int .i64 p.page, .int .i64 p.obj, .int .i64 p.len] : Array Value)[i]? := (by first | exact H3.swap.cells | exact (H3.take (Take.there _ (Take.there _ (Take.here _ _)))).cells); have hlt3 : bx < w3.heap.size := (by first | exact H3.swap.lt | exact (H3.take (Take.there _ (Take.there _ (Take.here _ _)))).lt)) | (refine step_append_sl rfl (.tmp 23) (.tmp 27) _ rfl 113 4 32 elem_h _ x.length (hCells x) rfl _ 1 (hCells [((k : Int), p)]) rfl (hCells_one _) (by unfold maxLen; omega) (by omega) (by first | exact H3 | exact (H3.alloc _).swap) (by change Reads _ (Value.slice (some ⟨_, 0, none⟩) 1 1) _ _ _; first | exact row.reads (row.made (H3.swap) (Nat.le_refl _) (by decide) rfl rfl) | exact row.reads (row.made (Holds.allocAt H3 (by simp)) (Nat.le_refl _) (by decide) rfl rfl)) ?_; intro v4 w4 H4))
      all_goals go_wp2
      all_goals go_ret3
      all_goals exact ⟨_, rfl, by rw [hCells_append]; exact H4.swap.drop.swap.drop⟩

set_option maxHeartbeats 1000000 in
theorem dropR_no (H : Holds e w R) (x : List HE) (v : Value) (hb : x.length ≤ 1000) (h : Int) (hn : atR x h = -1) (hrR : ∀ w', Holds e w' R → Reads w' v 4 x.length (hCells x)) :
    Calls Try.prog 72 #[v, .int .i64 h] w (Ret e (.tuple #[v, PlaceS.zero.val, .bool false]) R) := by
  have HN := Lib.hid hn
  have HRR := Lib.hid hrR
  clear hn hrR
  go_enter Try.func72, Try.ntmps72
  go_wp2_with fail
  refine (retQ (atR_any x v h (by omega) (HRR.out _ (H.alloc _).drop)) (H.alloc _)).mono ?_
  rw [HN.out]
  generalize w.heap.size = bx at *
  rintro e w2 ⟨rfl, H2⟩
  have hc2 := H2.cells
  have hf2 := H2.frozen
  go_wp2
  refine bodyPost_at (((H2.set 0 _).set 1 _).set 2 _) fun w9 H9 => ?_
  have hc9 := H9.cells
  exact bodyPost_ret (v := .tuple #[v, PlaceS.zero.val, .bool false]) (by simp [results, Try.results72, go_sem, PlaceS.zero, PlaceS.val, hc9]) rfl ⟨rfl, H9.drop⟩

set_option maxHeartbeats 1000000 in
theorem dropR_yes (H : Holds e w R) (x : List HE) (v : Value) (hb : x.length ≤ 1000) (h : Int) (k : Nat) (hk : k < x.length) (hn : atR x h = k) (hrR : ∀ w', Holds e w' R → Reads w' v 4 x.length (hCells x)) :
    Calls Try.prog 72 #[v, .int .i64 h] w (RetEx e (fun v' => .tuple #[v', (x.getD k (0, PlaceS.zero)).2.val, .bool true]) (fun v' => row v' 113 4 (x.length - 1) (hCells (x.take k ++ x.drop (k + 1))) :: R)) := by
  have HN := Lib.hid hn
  have HRR := Lib.hid hrR
  obtain ⟨ad, c, rfl⟩ := (hrR w H).shape
  have hcap : x.length ≤ c := by
    rcases (hrR w H).2 with ⟨h, h'⟩ | ⟨a', c', h, h', _⟩
    · omega
    · cases h; exact h'
  obtain ⟨g, o, rfl, _⟩ := (hrR w H).at (by omega)
  clear hn hrR
  generalize hp : (x.getD k (0, PlaceS.zero)).2 = p at *
  have HP := Lib.hid hp
  clear hp
  by_cases hc : c = k + 1
  · subst hc
    have hx0 : x.length - (k + 1) = 0 := by omega
    have hxd : x.drop (k + 1) = [] := List.drop_of_length_le (by omega)
    have HX0 := Lib.hid hx0
    have HXD := Lib.hid hxd
    clear hx0 hxd
    go_enter Try.func72, Try.ntmps72
    go_wp2_with fail
    refine (retQ (atR_any x _ h (by omega) (HRR.out _ (H.alloc _).drop)) (H.alloc _)).mono ?_
    rw [HN.out]
    generalize w.heap.size = bx at *
    rintro e w2 ⟨rfl, H2⟩
    go_wp2_with (at_builtin; refine wpList_append_sl rfl (.tmp 16) _ _ rfl 113 4 32 elem_h _ 0 [] rfl (row.made (H2.alloc _) (Nat.le_refl _) (by decide) rfl rfl) _ k (hCells (x.take k)) rfl ?_ (hCells_one _) ?_ ?_ ?_)
    · rw [hCells_take]; exact reads_take (HRR.out _ (H2.alloc _).drop.drop) (by omega)
    · unfold maxLen; omega
    · omega
    intro v3 w3 H3
    have hc3 := H3.swap.cells
    have hf3 := H3.swap.frozen
    have hr3 := HRR.out _ H3.drop.drop
    obtain ⟨_, p1, p2, p3⟩ := reads_h hr3 hk
    rw [HP.out] at p1 p2 p3
    have f1 : k + (x.length - (k + 1)) ≤ maxLen := by unfold maxLen; omega
    have f2 : (k + (x.length - (k + 1))) * 32 ≤ 140737488355328 := by omega
    have f3 : k + 1 ≤ x.length := by omega
    have F4 := Lib.hid (show k + (x.length - (k + 1)) = x.length - 1 by omega)
    have hs1 : (k : Int) + 1 ≤ (x.length : Int) := by omega
    have hs2 : (0 : Int) ≤ (k : Int) + 1 := by omega
    have hs3 : ((k : Int) + 1).toNat = k + 1 := by omega
    have hs4 : IntKind.i64.wrap ((k : Int) + 1) = (k : Int) + 1 := IntWalk.i64_in _ (by omega)
    have hlt3 := World.block_lt_of_cell? _ _ p1
    have hltb := H3.swap.lt
    go_wp2
    have H3d := H3.drew
    have hrd : Reads w3.drew (.slice (some ⟨g, o, none⟩) (x.length - (k + 1)) 0) 4 (x.length - (k + 1)) (hCells (x.drop (k + 1))) := (by rw [HX0.out, HXD.out]; exact reads_none' _ _ _ _)
    clear H3
    go_region_law (first | (refine step_append_sl rfl (.tmp 21) (.tmp 25) _ rfl 113 4 32 elem_h v3 k (hCells (x.take k)) (by go_simp) (.slice (some ⟨g, o, none⟩) (x.length - (k + 1)) 0) (x.length - (k + 1)) (hCells (x.drop (k + 1))) (by go_simp) (hCells_one _) f1 f2 (by exact H3d) (by exact hrd) ?_; intro v4 w4 H4; rw [F4.out, ← hCells_append] at H4; have hc4 := H4.swap.cells; have hf4 := H4.swap.frozen; have hr4 := HRR.out _ H4.drop.drop; obtain ⟨_, u1, u2, u3⟩ := reads_h hr4 hk; rw [HP.out] at u1 u2 u3))
    all_goals go_wp2
    all_goals refine bodyPost_at (((H4.swap.set 0 _).set 1 _).set 2 _) fun w9 H9 => ?_
    all_goals have hc9 := H9.cells
    all_goals exact bodyPost_ret (v := .tuple #[v4, p.val, .bool true]) (by simp [results, Try.results72, go_sem, PlaceS.val, hc9]) rfl ⟨_, rfl, H9.drop⟩
  · have hck : ¬ c = k + 1 := by omega
    clear hc
    go_enter Try.func72, Try.ntmps72
    go_wp2_with fail
    refine (retQ (atR_any x _ h (by omega) (HRR.out _ (H.alloc _).drop)) (H.alloc _)).mono ?_
    rw [HN.out]
    generalize w.heap.size = bx at *
    rintro e w2 ⟨rfl, H2⟩
    go_wp2_with (at_builtin; refine wpList_append_sl rfl (.tmp 16) _ _ rfl 113 4 32 elem_h _ 0 [] rfl (row.made (H2.alloc _) (Nat.le_refl _) (by decide) rfl rfl) _ k (hCells (x.take k)) rfl ?_ (hCells_one _) ?_ ?_ ?_)
    · rw [hCells_take]; exact reads_take (HRR.out _ (H2.alloc _).drop.drop) (by omega)
    · unfold maxLen; omega
    · omega
    intro v3 w3 H3
    have hc3 := H3.swap.cells
    have hf3 := H3.swap.frozen
    have hr3 := HRR.out _ H3.drop.drop
    obtain ⟨_, p1, p2, p3⟩ := reads_h hr3 hk
    rw [HP.out] at p1 p2 p3
    have f1 : k + (x.length - (k + 1)) ≤ maxLen := by unfold maxLen; omega
    have f2 : (k + (x.length - (k + 1))) * 32 ≤ 140737488355328 := by omega
    have f3 : k + 1 ≤ x.length := by omega
    have F4 := Lib.hid (show k + (x.length - (k + 1)) = x.length - 1 by omega)
    have hs1 : (k : Int) + 1 ≤ (x.length : Int) := by omega
    have hs2 : (0 : Int) ≤ (k : Int) + 1 := by omega
    have hs3 : ((k : Int) + 1).toNat = k + 1 := by omega
    have hs4 : IntKind.i64.wrap ((k : Int) + 1) = (k : Int) + 1 := IntWalk.i64_in _ (by omega)
    have hlt3 := World.block_lt_of_cell? _ _ p1
    have hltb := H3.swap.lt
    go_wp2
    have H3d := H3.drew
    have hrd : Reads w3.drew (.slice (some ⟨g, o + (k + 1) * 4, none⟩) (x.length - (k + 1)) (c - (k + 1))) 4 (x.length - (k + 1)) (hCells (x.drop (k + 1))) := (by rw [hCells_drop _ _ f3]; exact reads_drop hr3 f3)
    clear H3
    go_region_law (first | (refine step_append_sl rfl (.tmp 21) (.tmp 25) _ rfl 113 4 32 elem_h v3 k (hCells (x.take k)) (by go_simp) (.slice (some ⟨g, o + (k + 1) * 4, none⟩) (x.length - (k + 1)) (c - (k + 1))) (x.length - (k + 1)) (hCells (x.drop (k + 1))) (by go_simp) (hCells_one _) f1 f2 (by exact H3d) (by exact hrd) ?_; intro v4 w4 H4; rw [F4.out, ← hCells_append] at H4; have hc4 := H4.swap.cells; have hf4 := H4.swap.frozen; have hr4 := HRR.out _ H4.drop.drop; obtain ⟨_, u1, u2, u3⟩ := reads_h hr4 hk; rw [HP.out] at u1 u2 u3))
    all_goals go_wp2
    all_goals refine bodyPost_at (((H4.swap.set 0 _).set 1 _).set 2 _) fun w9 H9 => ?_
    all_goals have hc9 := H9.cells
    all_goals exact bodyPost_ret (v := .tuple #[v4, p.val, .bool true]) (by simp [results, Try.results72, go_sem, PlaceS.val, hc9]) rfl ⟨_, rfl, H9.drop⟩
end

end Go.Proofs.Ytfjdgjdkpmljkaa
