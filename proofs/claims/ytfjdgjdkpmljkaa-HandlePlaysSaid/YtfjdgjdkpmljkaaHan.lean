/-
  Contracts of the package handle.
-/
import Derived.Test.YtfjdgjdkpmljkaaRow
namespace Go.Proofs.Ytfjdgjdkpmljkaa
open Go.RowKit

theorem wpList_build0 {P : Program} {ops : Array Oper} {rest : List Oper} {o : Oper} {a : Act} {w : World} {Q : Exit → Act → World → Prop} (hgd : o.guard = none) (t : TypeId) (ho : o.op = .build t #[]) (cs : Array Value)
    (hr : ∀ w, (Instr.build t #[]).run P w = .ok (.agg cs) w) (h : wpList P ops Q rest (a.put o.dst (.agg cs)) w) : wpList P ops Q (o :: rest) a w :=
  wpList_plain hgd fun _ hK => by
    unfold Oper.wp execOp
    simp only [ho, List.map_toArray, List.map_nil, Sem.run_bind, hr, Result.andThen_ok, Sem.run_pure]
    exact hK _ _ h

structure PlaceS where
  page : Int
  obj : Int
  len : Int
  deriving DecidableEq

def PlaceS.zero : PlaceS := ⟨0, 0, 0⟩
def PlaceS.ok (p : PlaceS) : Prop := 0 ≤ p.page ∧ p.page < 4096 ∧ 0 ≤ p.obj ∧ p.obj < 256 ∧ 1 ≤ p.len ∧ p.len ≤ 4096
instance (p : PlaceS) : Decidable p.ok := by unfold PlaceS.ok; infer_instance
def PlaceS.comp (p : PlaceS) : Nat → Int
  | 0 => p.page
  | 1 => p.obj
  | _ => p.len
def PlaceS.val (p : PlaceS) : Value := .agg #[.int .i64 p.page, .int .i64 p.obj, .int .i64 p.len]

structure TabS where
  all : Nat → PlaceS
  many : Int

def TabS.cells (t : TabS) : Array Value := (Array.range 1540).map fun i => if i < 1539 then .int .i64 ((t.all (i / 3)).comp (i % 3)) else .int .i64 t.many
def TabS.obj (t : TabS) : Obj := .cells t.cells 101 (0, 0)
def TabS.zero : TabS := ⟨fun _ => PlaceS.zero, 0⟩
def zeroT : Array Value := (List.replicate 1540 (Value.int .i64 0)).toArray
theorem zeroT_eq : TabS.zero.cells = zeroT := by
  apply Array.ext_getElem?
  intro i
  by_cases hi : i < 1540
  · simp only [TabS.cells, Array.getElem?_map, Array.getElem?_range, hi, if_true, Option.map_some, TabS.zero, PlaceS.zero]
    have : i % 3 = 0 ∨ i % 3 = 1 ∨ i % 3 = 2 := by omega
    have e : (PlaceS.comp ⟨0, 0, 0⟩ (i % 3)) = 0 := by rcases this with h | h | h <;> rw [h] <;> rfl
    rw [e]
    unfold zeroT
    rw [List.getElem?_toArray, List.getElem?_replicate, if_pos hi]
    simp
  · rw [Array.getElem?_eq_none (by simp [TabS.cells]; omega)]
    unfold zeroT
    rw [List.getElem?_toArray, List.getElem?_replicate, if_neg hi]

theorem zeroT_build (w : World) : (Instr.build 101 #[]).run Try.prog w = .ok (.agg zeroT) w := by kernel_rfl

theorem TabS.cell {t : TabS} {h j : Nat} (hh : h < 513) (hj : j < 3) : t.cells[h * 3 + j]? = some (.int .i64 ((t.all h).comp j)) := by
  have h1 : h * 3 + j < 1540 := by omega
  have h2 : h * 3 + j < 1539 := by omega
  simp only [TabS.cells, Array.getElem?_map, Array.getElem?_range, h1, h2, if_true, Option.map_some]
  rw [show (h * 3 + j) / 3 = h by omega, show (h * 3 + j) % 3 = j by omega]
theorem TabS.cellMany {t : TabS} : t.cells[1539]? = some (.int .i64 t.many) := by
  simp [TabS.cells]

def TabS.put (t : TabS) (h : Nat) (p : PlaceS) : TabS := { t with all := fun k => if k = h then p else t.all k }

theorem TabS.cells_put {t : TabS} {h : Nat} (hh : h < 513) (p : PlaceS) :
    (((t.cells.setIfInBounds (h * 3) (.int .i64 p.page)).setIfInBounds (h * 3 + 1) (.int .i64 p.obj)).setIfInBounds (h * 3 + 2) (.int .i64 p.len)) = (t.put h p).cells := by
  apply Array.ext_getElem?
  intro i
  simp only [Array.getElem?_setIfInBounds, Array.size_setIfInBounds]
  have hs : t.cells.size = 1540 := by simp [TabS.cells]
  by_cases hi : i < 1540
  · simp only [TabS.cells, TabS.put, Array.getElem?_map, Array.getElem?_range, hi, if_true, Option.map_some, Array.size_map, Array.size_range]
    by_cases h0 : i / 3 = h
    · have : i < 1539 := by omega
      have h3 : i % 3 = 0 ∨ i % 3 = 1 ∨ i % 3 = 2 := by omega
      rcases h3 with h3 | h3 | h3
      · rw [if_neg (by omega), if_neg (by omega), if_pos (by omega)]; simp [this, h0, h3, PlaceS.comp]; omega
      · rw [if_neg (by omega), if_pos (by omega)]; simp [this, h0, h3, PlaceS.comp]; omega
      · rw [if_pos (by omega)]; simp [this, h0, h3, PlaceS.comp]; omega
    · rw [if_neg (by omega), if_neg (by omega), if_neg (by omega)]
      simp [h0]
  · rw [if_neg (by omega), if_neg (by omega), if_neg (by omega)]
    rw [Array.getElem?_eq_none (by omega), Array.getElem?_eq_none (by simp [TabS.cells]; omega)]

theorem TabS.cells_many {t : TabS} (m : Int) : t.cells.setIfInBounds 1539 (.int .i64 m) = ({ t with many := m } : TabS).cells := by
  apply Array.ext_getElem?
  intro i
  simp only [Array.getElem?_setIfInBounds]
  have hs : t.cells.size = 1540 := by simp [TabS.cells]
  by_cases hi : i < 1540
  · simp only [TabS.cells, Array.getElem?_map, Array.getElem?_range, hi, if_true, Option.map_some, Array.size_map, Array.size_range]
    by_cases h0 : i = 1539
    · subst h0; simp
    · rw [if_neg (by omega)]
      simp [show i < 1539 by omega]
  · rw [if_neg (by omega), Array.getElem?_eq_none (by omega), Array.getElem?_eq_none (by simp [TabS.cells]; omega)]

set_option maxHeartbeats 400000 in
theorem tabNew_any {e : Env} {w : World} {R : List HP} (H : Holds e w R) :
    Calls Try.prog 15 #[] w (RetEx e (fun b => .pointer (some ⟨b, 0, none⟩)) (fun b => pts b TabS.zero.obj :: R)) := by
  go_enter Try.func15, Try.ntmps15
  go_wp2_with (refine wpList_build0 rfl 101 rfl zeroT zeroT_build ?_)
  go_ret
  refine ⟨_, rfl, ?_⟩
  show Holds e _ (pts _ (.cells TabS.zero.cells _ _) :: R)
  rw [zeroT_eq]
  exact H.alloc _


section
variable {e : Env} {w : World} {b : Nat} {t : TabS} {R : List HP}

theorem tab_cells (H : Holds e w (pts b t.obj :: R)) {h : Nat} (hh : h < 513) : w.cell? ⟨b, h * 3, none⟩ = some (.int .i64 (t.all h).page) ∧ w.cell? ⟨b, h * 3 + 1, none⟩ = some (.int .i64 (t.all h).obj) ∧ w.cell? ⟨b, h * 3 + 2, none⟩ = some (.int .i64 (t.all h).len) := by
  unfold TabS.obj at H
  exact ⟨H.cell (TabS.cell (j := 0) hh (by omega)), H.cell (TabS.cell (j := 1) hh (by omega)), H.cell (TabS.cell (j := 2) hh (by omega))⟩

theorem place_ne {p : PlaceS} (h : p ≠ PlaceS.zero) : (p.page == 0) = false ∨ ((p.page == 0) = true ∧ (p.obj == 0) = false) ∨ ((p.page == 0) = true ∧ (p.obj == 0) = true ∧ (p.len == 0) = false) := by
  obtain ⟨x, y, z⟩ := p
  simp only [PlaceS.zero, ne_eq, PlaceS.mk.injEq, not_and] at h
  by_cases hx : x = 0
  · by_cases hy : y = 0
    · right; right; simp [hx, hy, h hx hy]
    · right; left; simp [hx, hy]
  · left; simp [hx]

set_option maxHeartbeats 400000 in
theorem in_nil (x : Int) : Calls Try.prog 66 #[.pointer none, .int .i64 x] w (Quiet w (.bool false)) := by
  go_enter Try.func66, Try.ntmps66
  go_wp2
  go_ret
  exact ⟨rfl, 0, rfl⟩

set_option maxHeartbeats 400000 in
theorem in_yes (H : Holds e w (pts b t.obj :: R)) (x : Int) (h1 : 1 ≤ x) (h2 : x ≤ 512) (hne : t.all x.toNat ≠ PlaceS.zero) :
    Calls Try.prog 66 #[.pointer (some ⟨b, 0, none⟩), .int .i64 x] w (Quiet w (.bool true)) := by
  obtain ⟨h, rfl⟩ := Int.eq_ofNat_of_zero_le (show 0 ≤ x by omega)
  rw [Int.toNat_natCast] at hne
  obtain ⟨c0, c1, c2⟩ := tab_cells H (h := h) (by omega)
  have hp := place_ne hne
  clear hne
  generalize t.all h = p at *
  rcases hp with g | ⟨g, g'⟩ | ⟨g, g', g''⟩
  all_goals
    go_enter Try.func66, Try.ntmps66
    go_wp2
    go_ret
    exact ⟨rfl, 0, rfl⟩

set_option maxHeartbeats 400000 in
theorem in_no (H : Holds e w (pts b t.obj :: R)) (x : Int) (h : x < 1 ∨ 512 < x ∨ t.all x.toNat = PlaceS.zero) :
    Calls Try.prog 66 #[.pointer (some ⟨b, 0, none⟩), .int .i64 x] w (Quiet w (.bool false)) := by
  by_cases h1 : 1 ≤ x
  · by_cases h2 : x ≤ 512
    · have hz : t.all x.toNat = PlaceS.zero := by rcases h with h | h | h; omega; omega; exact h
      obtain ⟨n, rfl⟩ := Int.eq_ofNat_of_zero_le (show 0 ≤ x by omega)
      rw [Int.toNat_natCast] at hz
      obtain ⟨c0, c1, c2⟩ := tab_cells H (h := n) (by omega)
      rw [hz] at c0 c1 c2
      simp only [PlaceS.zero] at c0 c1 c2
      clear hz h
      go_enter Try.func66, Try.ntmps66
      go_wp2
      go_ret
      exact ⟨rfl, 0, rfl⟩
    · have h2' : 512 < x := by omega
      clear h h2
      go_enter Try.func66, Try.ntmps66
      go_wp2
      go_ret
      exact ⟨by simp; try omega, 0, rfl⟩
  · have h1' : x < 1 := by omega
    clear h h1
    go_enter Try.func66, Try.ntmps66
    go_wp2
    go_ret
    exact ⟨by simp; try omega, 0, rfl⟩

set_option maxHeartbeats 400000 in
theorem hmay_yes (H : Holds e w R) (p : PlaceS) (h : p.ok) : Calls Try.prog 44 #[p.val] w (Ret e (.bool true) R) := by
  obtain ⟨h1, h2, h3, h4, h5, h6⟩ := h
  unfold PlaceS.val
  go_enter Try.func44, Try.ntmps44
  go_wp2
  go_ret
  exact ⟨by simp; try omega, (H.alloc _).drop⟩

set_option maxHeartbeats 400000 in
theorem hmay_no (H : Holds e w R) (p : PlaceS) (h : ¬ p.ok) : Calls Try.prog 44 #[p.val] w (Ret e (.bool false) R) := by
  have h' : p.page < 0 ∨ (0 ≤ p.page ∧ 4096 ≤ p.page) ∨ (0 ≤ p.page ∧ p.page < 4096 ∧ p.obj < 0) ∨ (0 ≤ p.page ∧ p.page < 4096 ∧ 0 ≤ p.obj ∧ 256 ≤ p.obj) ∨ (0 ≤ p.page ∧ p.page < 4096 ∧ 0 ≤ p.obj ∧ p.obj < 256 ∧ p.len < 1) ∨ (0 ≤ p.page ∧ p.page < 4096 ∧ 0 ≤ p.obj ∧ p.obj < 256 ∧ 1 ≤ p.len ∧ 4096 < p.len) := by
    unfold PlaceS.ok at h; omega
  clear h
  unfold PlaceS.val
  rcases h' with g | ⟨g1, g2⟩ | ⟨g1, g2, g3⟩ | ⟨g1, g2, g3, g4⟩ | ⟨g1, g2, g3, g4, g5⟩ | ⟨g1, g2, g3, g4, g5, g6⟩
  all_goals
    go_enter Try.func44, Try.ntmps44
    go_wp2
    go_ret
    exact ⟨by simp; try omega, (H.alloc _).drop⟩

set_option maxHeartbeats 400000 in
theorem hlen_nil : Calls Try.prog 19 #[.pointer none] w (Quiet w (.int .i64 0)) := by
  go_enter Try.func19, Try.ntmps19
  go_wp2
  go_ret
  exact ⟨rfl, 0, rfl⟩

set_option maxHeartbeats 400000 in
theorem hlen_ok (H : Holds e w (pts b t.obj :: R)) : Calls Try.prog 19 #[.pointer (some ⟨b, 0, none⟩)] w (Quiet w (.int .i64 t.many)) := by
  have h0 : w.cell? ⟨b, 1539, none⟩ = some (.int .i64 t.many) := by unfold TabS.obj at H; exact H.cell TabS.cellMany
  go_enter Try.func19, Try.ntmps19
  go_wp2
  go_ret
  exact ⟨rfl, 0, rfl⟩

set_option maxHeartbeats 400000 in
theorem get_nil (H : Holds e w R) (x : Int) : Calls Try.prog 21 #[.pointer none, .int .i64 x] w (Ret e (.tuple #[PlaceS.zero.val, .bool false]) R) := by
  go_enter Try.func21, Try.ntmps21
  go_wp2_with fail
  refine (retQ (in_nil _) (H.alloc _)).mono ?_
  generalize w.heap.size = bx
  rintro e w1 ⟨rfl, H1⟩
  (have hf := H1.frozen; have hc := H1.cells; go_wp2; refine bodyPost_at (((H1.set 0 _).set 1 _).set 2 _) fun w9 H9 => ?_; have hc9 := H9.cells; exact bodyPost_ret (v := .tuple #[PlaceS.zero.val, .bool false]) (by simp [results, Try.results21, go_sem, PlaceS.zero, PlaceS.val, hc9]) rfl ⟨rfl, H9.drop⟩)

set_option maxHeartbeats 400000 in
theorem get_no (H : Holds e w (pts b t.obj :: R)) (x : Int) (h : x < 1 ∨ 512 < x ∨ t.all x.toNat = PlaceS.zero) :
    Calls Try.prog 21 #[.pointer (some ⟨b, 0, none⟩), .int .i64 x] w (Ret e (.tuple #[PlaceS.zero.val, .bool false]) (pts b t.obj :: R)) := by
  have HK := Lib.hid h; clear h
  go_enter Try.func21, Try.ntmps21
  go_wp2_with fail
  refine (retQ (in_no (H.alloc _).swap _ HK.out) (H.alloc _)).mono ?_
  generalize w.heap.size = bx
  rintro e w1 ⟨rfl, H1⟩
  (have hf := H1.frozen; have hc := H1.cells; go_wp2; refine bodyPost_at (((H1.set 0 _).set 1 _).set 2 _) fun w9 H9 => ?_; have hc9 := H9.cells; exact bodyPost_ret (v := .tuple #[PlaceS.zero.val, .bool false]) (by simp [results, Try.results21, go_sem, PlaceS.zero, PlaceS.val, hc9]) rfl ⟨rfl, H9.drop⟩)

set_option maxHeartbeats 400000 in
theorem get_yes (H : Holds e w (pts b t.obj :: R)) (x : Int) (h1 : 1 ≤ x) (h2 : x ≤ 512) (hne : t.all x.toNat ≠ PlaceS.zero) :
    Calls Try.prog 21 #[.pointer (some ⟨b, 0, none⟩), .int .i64 x] w (Ret e (.tuple #[(t.all x.toNat).val, .bool true]) (pts b t.obj :: R)) := by
  obtain ⟨h, rfl⟩ := Int.eq_ofNat_of_zero_le (show 0 ≤ x by omega)
  have HK := Lib.hid hne; clear hne
  rw [Int.toNat_natCast]
  go_enter Try.func21, Try.ntmps21
  go_wp2_with fail
  refine (retQ (in_yes (H.alloc _).swap _ h1 h2 HK.out) (H.alloc _)).mono ?_
  generalize w.heap.size = bx
  rintro e w1 ⟨rfl, H1⟩
  obtain ⟨c0, c1, c2⟩ := tab_cells H1.swap (h := h) (by omega)
  generalize t.all h = p at *
  (have hf := H1.frozen; have hc := H1.cells; go_wp2; refine bodyPost_at (((H1.set 0 _).set 1 _).set 2 _) fun w9 H9 => ?_; have hc9 := H9.cells; exact bodyPost_ret (v := .tuple #[p.val, .bool true]) (by simp [results, Try.results21, go_sem,  PlaceS.val, hc9]) rfl ⟨rfl, H9.drop⟩)

set_option maxHeartbeats 400000 in
theorem hset_no (H : Holds e w (pts b t.obj :: R)) (x : Int) (p : PlaceS) (h : (x < 1 ∨ 512 < x ∨ t.all x.toNat = PlaceS.zero) ∨ ¬ p.ok) :
    Calls Try.prog 22 #[.pointer (some ⟨b, 0, none⟩), .int .i64 x, p.val] w (Ret e (.bool false) (pts b t.obj :: R)) := by
  by_cases hin : x < 1 ∨ 512 < x ∨ t.all x.toNat = PlaceS.zero
  · have HK := Lib.hid hin; clear hin h
    unfold PlaceS.val
    go_enter Try.func22, Try.ntmps22
    go_wp2_with fail
    refine (retQ (in_no (H.alloc _).swap _ HK.out) (H.alloc _)).mono ?_
    rintro e w1 ⟨rfl, H1⟩
    go_wp2
    go_ret
    exact ⟨rfl, H1.drop⟩
  · have hp : ¬ p.ok := by rcases h with h | h; exact absurd h hin; exact h
    have HK := Lib.hid hin; have HP := Lib.hid hp; clear hin h hp
    have hx : 1 ≤ x ∧ x ≤ 512 ∧ t.all x.toNat ≠ PlaceS.zero := by have := HK.out; exact ⟨by omega, by omega, fun h => this (.inr (.inr h))⟩
    obtain ⟨x1, x2, x3⟩ := hx
    have HX := Lib.hid x3; clear x3
    unfold PlaceS.val
    go_enter Try.func22, Try.ntmps22
    go_wp2_with fail
    refine (retQ (in_yes (H.alloc _).swap _ x1 x2 HX.out) (H.alloc _)).mono ?_
    rintro e w1 ⟨rfl, H1⟩
    have hc := H1.cells
    go_wp2_with fail
    refine (hmay_no H1 p HP.out).mono ?_
    rintro e w2 ⟨rfl, H2⟩
    go_wp2
    go_ret
    exact ⟨rfl, H2.drop⟩

set_option maxHeartbeats 400000 in
theorem hset_yes (H : Holds e w (pts b t.obj :: R)) (x : Int) (p : PlaceS) (h1 : 1 ≤ x) (h2 : x ≤ 512) (hne : t.all x.toNat ≠ PlaceS.zero) (hp : p.ok) :
    Calls Try.prog 22 #[.pointer (some ⟨b, 0, none⟩), .int .i64 x, p.val] w (Ret e (.bool true) (pts b (t.put x.toNat p).obj :: R)) := by
  have HX := Lib.hid hne; have HP := Lib.hid hp; clear hne hp
  obtain ⟨h, rfl⟩ := Int.eq_ofNat_of_zero_le (show 0 ≤ x by omega)
  rw [Int.toNat_natCast]
  unfold PlaceS.val
  go_enter Try.func22, Try.ntmps22
  go_wp2_with fail
  refine (retQ (in_yes (H.alloc _).swap _ h1 h2 HX.out) (H.alloc _)).mono ?_
  rintro e w1 ⟨rfl, H1⟩
  have hc := H1.cells
  go_wp2_with fail
  refine (hmay_yes H1 p HP.out).mono ?_
  rintro e w2 ⟨rfl, H2⟩
  clear H1
  generalize w.heap.size = bx at *
  have hc2 := H2.cells
  obtain ⟨c0, c1, c2⟩ := tab_cells H2.swap (h := h) (by omega)
  have hf := H2.swap.frozen
  go_wp2
  go_region
  all_goals go_wp2
  all_goals go_ret
  all_goals refine ⟨rfl, ?_⟩
  all_goals unfold TabS.obj
  all_goals rw [← TabS.cells_put (by omega)]
  all_goals exact ((((H2.swap.set _ _).set _ _).set _ _).take (Take.there _ (Take.here _ _))).drop.drew

set_option maxHeartbeats 400000 in
theorem hdrop_nil (H : Holds e w R) (x : Int) : Calls Try.prog 18 #[.pointer none, .int .i64 x] w (Ret e (.tuple #[PlaceS.zero.val, .bool false]) R) := by
  go_enter Try.func18, Try.ntmps18
  go_wp2_with fail
  refine (get_nil (H.alloc _) _).mono ?_
  rintro e w1 ⟨rfl, H1⟩
  unfold PlaceS.zero
  unfold PlaceS.val
  generalize w.heap.size = bx at *
  have hf := H1.frozen
  have hc := H1.cells
  have hlt := H1.lt
  go_wp2
  (refine bodyPost_at ((((H1.set 0 _).set 1 _).set 2 _).alloc _).swap fun w9 H9 => ?_; have hc9 := H9.cells; exact bodyPost_ret (v := .tuple #[PlaceS.zero.val, .bool false]) (by simp [results, Try.results18, go_sem, PlaceS.zero, PlaceS.val, hc9]) rfl ⟨rfl, H9.drop.drop⟩)

set_option maxHeartbeats 400000 in
theorem hdrop_no (H : Holds e w (pts b t.obj :: R)) (x : Int) (h : x < 1 ∨ 512 < x ∨ t.all x.toNat = PlaceS.zero) :
    Calls Try.prog 18 #[.pointer (some ⟨b, 0, none⟩), .int .i64 x] w (Ret e (.tuple #[PlaceS.zero.val, .bool false]) (pts b t.obj :: R)) := by
  have HK := Lib.hid h; clear h
  go_enter Try.func18, Try.ntmps18
  go_wp2_with fail
  refine (get_no (H.alloc _).swap _ HK.out).mono ?_
  rintro e w1 ⟨rfl, H1⟩
  unfold PlaceS.zero
  unfold PlaceS.val
  generalize w.heap.size = bx at *
  have H1' := H1.swap
  have hf := H1'.frozen
  have hc := H1'.cells
  have hlt := H1'.lt
  clear H1
  go_wp2
  (refine bodyPost_at ((((H1'.set 0 _).set 1 _).set 2 _).alloc _).swap fun w9 H9 => ?_; have hc9 := H9.cells; exact bodyPost_ret (v := .tuple #[PlaceS.zero.val, .bool false]) (by simp [results, Try.results18, go_sem, PlaceS.zero, PlaceS.val, hc9]) rfl ⟨rfl, H9.drop.drop⟩)

set_option maxHeartbeats 400000 in
theorem hdrop_yes (H : Holds e w (pts b t.obj :: R)) (x : Int) (h1 : 1 ≤ x) (h2 : x ≤ 512) (hne : t.all x.toNat ≠ PlaceS.zero) (hm : 0 ≤ t.many) (hm2 : t.many ≤ 512) :
    Calls Try.prog 18 #[.pointer (some ⟨b, 0, none⟩), .int .i64 x] w (Ret e (.tuple #[(t.all x.toNat).val, .bool true]) (pts b ({ t.put x.toNat PlaceS.zero with many := t.many - 1 } : TabS).obj :: R)) := by
  obtain ⟨h, rfl⟩ := Int.eq_ofNat_of_zero_le (show 0 ≤ x by omega)
  have HK := Lib.hid hne; clear hne
  rw [Int.toNat_natCast]
  go_enter Try.func18, Try.ntmps18
  go_wp2_with fail
  refine (get_yes (H.alloc _).swap _ h1 h2 HK.out).mono ?_
  rintro e w1 ⟨rfl, H1⟩
  try rw [Int.toNat_natCast]
  generalize hp : t.all h = p at *
  clear hp
  unfold PlaceS.val
  generalize w.heap.size = bx at *
  obtain ⟨c0, c1, c2⟩ := tab_cells H1 (h := h) (by omega)
  have c3 : w1.cell? ⟨b, 1539, none⟩ = some (.int .i64 t.many) := by unfold TabS.obj at H1; exact H1.cell TabS.cellMany
  have hfb := H1.frozen
  have hltb := H1.lt
  have H1' := H1.swap
  have hf := H1'.frozen
  have hc := H1'.cells
  have hlt := H1'.lt
  have hne := H1.ne
  go_wp2
  (refine bodyPost_at (((((((H1.set _ _).set _ _).set _ _).set 1539 _).swap.set 0 _).set 1 _).set 2 _ |>.alloc _).swap fun w9 H9 => ?_; have hc9 := H9.cells; exact bodyPost_ret (v := .tuple #[p.val, .bool true]) (by simp [results, Try.results18, go_sem,  PlaceS.val, hc9]) rfl ⟨rfl, (by unfold TabS.obj; have e1 := TabS.cells_put (t := t) (h := h) (by omega) PlaceS.zero; rw [← TabS.cells_many, ← e1]; exact H9.drop.drop)⟩)

end

end Go.Proofs.Ytfjdgjdkpmljkaa
