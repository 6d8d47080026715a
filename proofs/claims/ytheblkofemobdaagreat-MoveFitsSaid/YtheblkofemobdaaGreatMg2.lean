import Derived.Test.YtheblkofemobdaaGreatMg0
import Derived.Test.YtheblkofemobdaaGreatMg1
/-
  Contracts of the package handle.
-/
namespace Go.Proofs.YtheblkofemobdaaGreat
open Go.RowKit

theorem wpList_build0 {P : Program} {ops : Array Oper} {rest : List Oper} {o : Oper} {a : Act} {w : World} {Q : Exit → Act → World → Prop} (hgd : o.guard = none) (t : TypeId) (ho : o.op = .build t #[]) (cs : Array Value)
    (hr : ∀ w, (Instr.build t #[]).run P w = .ok (.agg cs) w) (h : wpList P ops Q rest (a.put o.dst (.agg cs)) w) : wpList P ops Q (o :: rest) a w :=
  wpList_plain hgd fun _ hK => by
    unfold Oper.wp execOp
    simp only [ho, List.map_toArray, List.map_nil, Sem.run_bind, hr, Result.andThen_ok, Sem.run_pure]
    exact hK _ _ h

structure PlaceS where
  page : Int
  obj : Int
  len : Int
  deriving DecidableEq

def PlaceS.zero : PlaceS := ⟨0, 0, 0⟩
def PlaceS.ok (p : PlaceS) : Prop := 0 ≤ p.page ∧ p.page < 4096 ∧ 0 ≤ p.obj ∧ p.obj < 256 ∧ 1 ≤ p.len ∧ p.len ≤ 4096
instance (p : PlaceS) : Decidable p.ok := by unfold PlaceS.ok; infer_instance
def PlaceS.comp (p : PlaceS) : Nat → Int
  | 0 => p.page
  | 1 => p.obj
  | _ => p.len
def PlaceS.val (p : PlaceS) : Value := .agg #[.int .i64 p.page, .int .i64 p.obj, .int .i64 p.len]

structure TabS where
  all : Nat → PlaceS
  many : Int

def TabS.cells (t : TabS) : Array Value := (Array.range 1540).map fun i => if i < 1539 then .int .i64 ((t.all (i / 3)).comp (i % 3)) else .int .i64 t.many
def TabS.obj (t : TabS) : Obj := .cells t.cells 113 (0, 0)
def TabS.zero : TabS := ⟨fun _ => PlaceS.zero, 0⟩
def zeroT : Array Value := (List.replicate 1540 (Value.int .i64 0)).toArray
theorem zeroT_eq : TabS.zero.cells = zeroT := by
  apply Array.ext_getElem?
  intro i
  by_cases hi : i < 1540
  · simp only [TabS.cells, Array.getElem?_map, Array.getElem?_range, hi, if_true, Option.map_some, TabS.zero, PlaceS.zero]
    have : i % 3 = 0 ∨ i % 3 = 1 ∨ i % 3 = 2 := by omega
    have e : (PlaceS.comp ⟨0, 0, 0⟩ (i % 3)) = 0 := by rcases this with h | h | h <;> rw [h] <;> rfl
    rw [e]
    unfold zeroT
    rw [List.getElem?_toArray, List.getElem?_replicate, if_pos hi]
    simp
  · rw [Array.getElem?_eq_none (by simp [TabS.cells]; omega)]
    unfold zeroT
    rw [List.getElem?_toArray, List.getElem?_replicate, if_neg hi]

theorem zeroT_build (w : World) : (Instr.build 113 #[]).run Tryz.prog w = .ok (.agg zeroT) w := by kernel_rfl

theorem TabS.cell {t : TabS} {h j : Nat} (hh : h < 513) (hj : j < 3) : t.cells[h * 3 + j]? = some (.int .i64 ((t.all h).comp j)) := by
  have h1 : h * 3 + j < 1540 := by omega
  have h2 : h * 3 + j < 1539 := by omega
  simp only [TabS.cells, Array.getElem?_map, Array.getElem?_range, h1, h2, if_true, Option.map_some]
  rw [show (h * 3 + j) / 3 = h by omega, show (h * 3 + j) % 3 = j by omega]
theorem TabS.cellMany {t : TabS} : t.cells[1539]? = some (.int .i64 t.many) := by
  simp [TabS.cells]

def TabS.put (t : TabS) (h : Nat) (p : PlaceS) : TabS := { t with all := fun k => if k = h then p else t.all k }

theorem TabS.cells_put {t : TabS} {h : Nat} (hh : h < 513) (p : PlaceS) :
    (((t.cells.setIfInBounds (h * 3) (.int .i64 p.page)).setIfInBounds (h * 3 + 1) (.int .i64 p.obj)).setIfInBounds (h * 3 + 2) (.int .i64 p.len)) = (t.put h p).cells := by
  apply Array.ext_getElem?
  intro i
  simp only [Array.getElem?_setIfInBounds, Array.size_setIfInBounds]
  have hs : t.cells.size = 1540 := by simp [TabS.cells]
  by_cases hi : i < 1540
  · simp only [TabS.cells, TabS.put, Array.getElem?_map, Array.getElem?_range, hi, if_true, Option.map_some, Array.size_map, Array.size_range]
    by_cases h0 : i / 3 = h
    · have : i < 1539 := by omega
      have h3 : i % 3 = 0 ∨ i % 3 = 1 ∨ i % 3 = 2 := by omega
      rcases h3 with h3 | h3 | h3
      · rw [if_neg (by omega), if_neg (by omega), if_pos (by omega)]; simp [this, h0, h3, PlaceS.comp]; omega
      · rw [if_neg (by omega), if_pos (by omega)]; simp [this, h0, h3, PlaceS.comp]; omega
      · rw [if_pos (by omega)]; simp [this, h0, h3, PlaceS.comp]; omega
    · rw [if_neg (by omega), if_neg (by omega), if_neg (by omega)]
      simp [h0]
  · rw [if_neg (by omega), if_neg (by omega), if_neg (by omega)]
    rw [Array.getElem?_eq_none (by omega), Array.getElem?_eq_none (by simp [TabS.cells]; omega)]

theorem TabS.cells_many {t : TabS} (m : Int) : t.cells.setIfInBounds 1539 (.int .i64 m) = ({ t with many := m } : TabS).cells := by
  apply Array.ext_getElem?
  intro i
  simp only [Array.getElem?_setIfInBounds]
  have hs : t.cells.size = 1540 := by simp [TabS.cells]
  by_cases hi : i < 1540
  · simp only [TabS.cells, Array.getElem?_map, Array.getElem?_range, hi, if_true, Option.map_some, Array.size_map, Array.size_range]
    by_cases h0 : i = 1539
    · subst h0; simp
    · rw [if_neg (by omega)]
      simp [show i < 1539 by omega]
  · rw [if_neg (by omega), Array.getElem?_eq_none (by omega), Array.getElem?_eq_none (by simp [TabS.cells]; omega)]

set_option maxHeartbeats 400000 in
theorem tabNew_any {e : Env} {w : World} {R : List HP} (H : Holds e w R) :
    Calls Tryz.prog 38 #[] w (RetEx e (fun b => .pointer (some ⟨b, 0, none⟩)) (fun b => pts b TabS.zero.obj :: R)) := by
  go_enter Tryz.func38, Tryz.ntmps38
  go_wp2_with (refine wpList_build0 rfl 113 rfl zeroT zeroT_build ?_)
  go_ret
  refine ⟨_, rfl, ?_⟩
  show Holds e _ (pts _ (.cells TabS.zero.cells _ _) :: R)
  rw [zeroT_eq]
  exact H.alloc _


section
variable {e : Env} {w : World} {b : Nat} {t : TabS} {R : List HP}

theorem tab_cells (H : Holds e w (pts b t.obj :: R)) {h : Nat} (hh : h < 513) : w.cell? ⟨b, h * 3, none⟩ = some (.int .i64 (t.all h).page) ∧ w.cell? ⟨b, h * 3 + 1, none⟩ = some (.int .i64 (t.all h).obj) ∧ w.cell? ⟨b, h * 3 + 2, none⟩ = some (.int .i64 (t.all h).len) := by
  unfold TabS.obj at H
  exact ⟨H.cell (TabS.cell (j := 0) hh (by omega)), H.cell (TabS.cell (j := 1) hh (by omega)), H.cell (TabS.cell (j := 2) hh (by omega))⟩

theorem place_ne {p : PlaceS} (h : p ≠ PlaceS.zero) : (p.page == 0) = false ∨ ((p.page == 0) = true ∧ (p.obj == 0) = false) ∨ ((p.page == 0) = true ∧ (p.obj == 0) = true ∧ (p.len == 0) = false) := by
  obtain ⟨x, y, z⟩ := p
  simp only [PlaceS.zero, ne_eq, PlaceS.mk.injEq, not_and] at h
  by_cases hx : x = 0
  · by_cases hy : y = 0
    · right; right; simp [hx, hy, h hx hy]
    · right; left; simp [hx, hy]
  · left; simp [hx]

set_option maxHeartbeats 400000 in
theorem in_nil (x : Int) : Calls Tryz.prog 73 #[.pointer none, .int .i64 x] w (Quiet w (.bool false)) := by
  go_enter Tryz.func73, Tryz.ntmps73
  go_wp2
  go_ret
  exact ⟨rfl, 0, rfl⟩

set_option maxHeartbeats 400000 in
theorem in_yes (H : Holds e w (pts b t.obj :: R)) (x : Int) (h1 : 1 ≤ x) (h2 : x ≤ 512) (hne : t.all x.toNat ≠ PlaceS.zero) :
    Calls Tryz.prog 73 #[.pointer (some ⟨b, 0, none⟩), .int .i64 x] w (Quiet w (.bool true)) := by
  obtain ⟨h, rfl⟩ := Int.eq_ofNat_of_zero_le (show 0 ≤ x by omega)
  rw [Int.toNat_natCast] at hne
  obtain ⟨c0, c1, c2⟩ := tab_cells H (h := h) (by omega)
  have hp := place_ne hne
  clear hne
  generalize t.all h = p at *
  rcases hp with g | ⟨g, g'⟩ | ⟨g, g', g''⟩
  all_goals
    go_enter Tryz.func73, Tryz.ntmps73
    go_wp2
    go_ret
    exact ⟨rfl, 0, rfl⟩

set_option maxHeartbeats 400000 in
theorem in_no (H : Holds e w (pts b t.obj :: R)) (x : Int) (h : x < 1 ∨ 512 < x ∨ t.all x.toNat = PlaceS.zero) :
    Calls Tryz.prog 73 #[.pointer (some ⟨b, 0, none⟩), .int .i64 x] w (Quiet w (.bool false)) := by
  by_cases h1 : 1 ≤ x
  · by_cases h2 : x ≤ 512
    · have hz : t.all x.toNat = PlaceS.zero := by rcases h with h | h | h; omega; omega; exact h
      obtain ⟨n, rfl⟩ := Int.eq_ofNat_of_zero_le (show 0 ≤ x by omega)
      rw [Int.toNat_natCast] at hz
      obtain ⟨c0, c1, c2⟩ := tab_cells H (h := n) (by omega)
      rw [hz] at c0 c1 c2
      simp only [PlaceS.zero] at c0 c1 c2
      clear hz h
      go_enter Tryz.func73, Tryz.ntmps73
      go_wp2
      go_ret
      exact ⟨rfl, 0, rfl⟩
    · have h2' : 512 < x := by omega
      clear h h2
      go_enter Tryz.func73, Tryz.ntmps73
      go_wp2
      go_ret
      exact ⟨by simp; try omega, 0, rfl⟩
  · have h1' : x < 1 := by omega
    clear h h1
    go_enter Tryz.func73, Tryz.ntmps73
    go_wp2
    go_ret
    exact ⟨by simp; try omega, 0, rfl⟩

set_option maxHeartbeats 400000 in
theorem hmay_yes (H : Holds e w R) (p : PlaceS) (h : p.ok) : Calls Tryz.prog 72 #[p.val] w (Ret e (.bool true) R) := by
  obtain ⟨h1, h2, h3, h4, h5, h6⟩ := h
  unfold PlaceS.val
  go_enter Tryz.func72, Tryz.ntmps72
  go_wp2
  go_ret
  exact ⟨by simp; try omega, (H.alloc _).drop⟩

set_option maxHeartbeats 400000 in
theorem hmay_no (H : Holds e w R) (p : PlaceS) (h : ¬ p.ok) : Calls Tryz.prog 72 #[p.val] w (Ret e (.bool false) R) := by
  have h' : p.page < 0 ∨ (0 ≤ p.page ∧ 4096 ≤ p.page) ∨ (0 ≤ p.page ∧ p.page < 4096 ∧ p.obj < 0) ∨ (0 ≤ p.page ∧ p.page < 4096 ∧ 0 ≤ p.obj ∧ 256 ≤ p.obj) ∨ (0 ≤ p.page ∧ p.page < 4096 ∧ 0 ≤ p.obj ∧ p.obj < 256 ∧ p.len < 1) ∨ (0 ≤ p.page ∧ p.page < 4096 ∧ 0 ≤ p.obj ∧ p.obj < 256 ∧ 1 ≤ p.len ∧ 4096 < p.len) := by
    unfold PlaceS.ok at h; omega
  clear h
  unfold PlaceS.val
  rcases h' with g | ⟨g1, g2⟩ | ⟨g1, g2, g3⟩ | ⟨g1, g2, g3, g4⟩ | ⟨g1, g2, g3, g4, g5⟩ | ⟨g1, g2, g3, g4, g5, g6⟩
  all_goals
    go_enter Tryz.func72, Tryz.ntmps72
    go_wp2
    go_ret
    exact ⟨by simp; try omega, (H.alloc _).drop⟩

set_option maxHeartbeats 400000 in
theorem hlen_nil : Calls Tryz.prog 60 #[.pointer none] w (Quiet w (.int .i64 0)) := by
  go_enter Tryz.func60, Tryz.ntmps60
  go_wp2
  go_ret
  exact ⟨rfl, 0, rfl⟩

set_option maxHeartbeats 400000 in
theorem hlen_ok (H : Holds e w (pts b t.obj :: R)) : Calls Tryz.prog 60 #[.pointer (some ⟨b, 0, none⟩)] w (Quiet w (.int .i64 t.many)) := by
  have h0 : w.cell? ⟨b, 1539, none⟩ = some (.int .i64 t.many) := by unfold TabS.obj at H; exact H.cell TabS.cellMany
  go_enter Tryz.func60, Tryz.ntmps60
  go_wp2
  go_ret
  exact ⟨rfl, 0, rfl⟩

set_option maxHeartbeats 400000 in
theorem get_nil (H : Holds e w R) (x : Int) : Calls Tryz.prog 57 #[.pointer none, .int .i64 x] w (Ret e (.tuple #[PlaceS.zero.val, .bool false]) R) := by
  go_enter Tryz.func57, Tryz.ntmps57
  go_wp2_with fail
  refine (retQ (in_nil _) (H.alloc _)).mono ?_
  generalize w.heap.size = bx
  rintro e w1 ⟨rfl, H1⟩
  (have hf := H1.frozen; have hc := H1.cells; go_wp2; refine bodyPost_at (((H1.set 0 _).set 1 _).set 2 _) fun w9 H9 => ?_; have hc9 := H9.cells; exact bodyPost_ret (v := .tuple #[PlaceS.zero.val, .bool false]) (by simp [results, Tryz.results57, go_sem, PlaceS.zero, PlaceS.val, hc9]) rfl ⟨rfl, H9.drop⟩)

set_option maxHeartbeats 400000 in
theorem get_no (H : Holds e w (pts b t.obj :: R)) (x : Int) (h : x < 1 ∨ 512 < x ∨ t.all x.toNat = PlaceS.zero) :
    Calls Tryz.prog 57 #[.pointer (some ⟨b, 0, none⟩), .int .i64 x] w (Ret e (.tuple #[PlaceS.zero.val, .bool false]) (pts b t.obj :: R)) := by
  have HK := Lib.hid h; clear h
  go_enter Tryz.func57, Tryz.ntmps57
  go_wp2_with fail
  refine (retQ (in_no (H.alloc _).swap _ HK.out) (H.alloc _)).mono ?_
  generalize w.heap.size = bx
  rintro e w1 ⟨rfl, H1⟩
  (have hf := H1.frozen; have hc := H1.cells; go_wp2; refine bodyPost_at (((H1.set 0 _).set 1 _).set 2 _) fun w9 H9 => ?_; have hc9 := H9.cells; exact bodyPost_ret (v := .tuple #[PlaceS.zero.val, .bool false]) (by simp [results, Tryz.results57, go_sem, PlaceS.zero, PlaceS.val, hc9]) rfl ⟨rfl, H9.drop⟩)

set_option maxHeartbeats 400000 in
theorem get_yes (H : Holds e w (pts b t.obj :: R)) (x : Int) (h1 : 1 ≤ x) (h2 : x ≤ 512) (hne : t.all x.toNat ≠ PlaceS.zero) :
    Calls Tryz.prog 57 #[.pointer (some ⟨b, 0, none⟩), .int .i64 x] w (Ret e (.tuple #[(t.all x.toNat).val, .bool true]) (pts b t.obj :: R)) := by
  obtain ⟨h, rfl⟩ := Int.eq_ofNat_of_zero_le (show 0 ≤ x by omega)
  have HK := Lib.hid hne; clear hne
  rw [Int.toNat_natCast]
  go_enter Tryz.func57, Tryz.ntmps57
  go_wp2_with fail
  refine (retQ (in_yes (H.alloc _).swap _ h1 h2 HK.out) (H.alloc _)).mono ?_
  generalize w.heap.size = bx
  rintro e w1 ⟨rfl, H1⟩
  obtain ⟨c0, c1, c2⟩ := tab_cells H1.swap (h := h) (by omega)
  generalize t.all h = p at *
  (have hf := H1.frozen; have hc := H1.cells; go_wp2; refine bodyPost_at (((H1.set 0 _).set 1 _).set 2 _) fun w9 H9 => ?_; have hc9 := H9.cells; exact bodyPost_ret (v := .tuple #[p.val, .bool true]) (by simp [results, Tryz.results57, go_sem,  PlaceS.val, hc9]) rfl ⟨rfl, H9.drop⟩)

set_option maxHeartbeats 400000 in
theorem hset_no (H : Holds e w (pts b t.obj :: R)) (x : Int) (p : PlaceS) (h : (x < 1 ∨ 512 < x ∨ t.all x.toNat = PlaceS.zero) ∨ ¬ p.ok) :
    Calls Tryz.prog 59 #[.pointer (some ⟨b, 0, none⟩), .int .i64 x, p.val] w (Ret e (.bool false) (pts b t.obj :: R)) := by
  by_cases hin : x < 1 ∨ 512 < x ∨ t.all x.toNat = PlaceS.zero
  · have HK := Lib.hid hin; clear hin h
    unfold PlaceS.val
    go_enter Tryz.func59, Tryz.ntmps59
    go_wp2_with fail
    refine (retQ (in_no (H.alloc _).swap _ HK.out) (H.alloc _)).mono ?_
    rintro e w1 ⟨rfl, H1⟩
    go_wp2
    go_ret
    exact ⟨rfl, H1.drop⟩
  · have hp : ¬ p.ok := by rcases h with h | h; exact absurd h hin; exact h
    have HK := Lib.hid hin; have HP := Lib.hid hp; clear hin h hp
    have hx : 1 ≤ x ∧ x ≤ 512 ∧ t.all x.toNat ≠ PlaceS.zero := by have := HK.out; exact ⟨by omega, by omega, fun h => this (.inr (.inr h))⟩
    obtain ⟨x1, x2, x3⟩ := hx
    have HX := Lib.hid x3; clear x3
    unfold PlaceS.val
    go_enter Tryz.func59, Tryz.ntmps59
    go_wp2_with fail
    refine (retQ (in_yes (H.alloc _).swap _ x1 x2 HX.out) (H.alloc _)).mono ?_
    rintro e w1 ⟨rfl, H1⟩
    have hc := H1.cells
    go_wp2_with fail
    refine (hmay_no H1 p HP.out).mono ?_
    rintro e w2 ⟨rfl, H2⟩
    go_wp2
    go_ret
    exact ⟨rfl, H2.drop⟩

set_option maxHeartbeats 400000 in
theorem hset_yes (H : Holds e w (pts b t.obj :: R)) (x : Int) (p : PlaceS) (h1 : 1 ≤ x) (h2 : x ≤ 512) (hne : t.all x.toNat ≠ PlaceS.zero) (hp : p.ok) :
    Calls Tryz.prog 59 #[.pointer (some ⟨b, 0, none⟩), .int .i64 x, p.val] w (Ret e (.bool true) (pts b (t.put x.toNat p).obj :: R)) := by
  have HX := Lib.hid hne; have HP := Lib.hid hp; clear hne hp
  obtain ⟨h, rfl⟩ := Int.eq_ofNat_of_zero_le (show 0 ≤ x by omega)
  rw [Int.toNat_natCast]
  unfold PlaceS.val
  go_enter Tryz.func59, Tryz.ntmps59
  go_wp2_with fail
  refine (retQ (in_yes (H.alloc _).swap _ h1 h2 HX.out) (H.alloc _)).mono ?_
  rintro e w1 ⟨rfl, H1⟩
  have hc := H1.cells
  go_wp2_with fail
  refine (hmay_yes H1 p HP.out).mono ?_
  rintro e w2 ⟨rfl, H2⟩
  clear H1
  generalize w.heap.size = bx at *
  have hc2 := H2.cells
  obtain ⟨c0, c1, c2⟩ := tab_cells H2.swap (h := h) (by omega)
  have hf := H2.swap.frozen
  go_wp2
  go_region
  all_goals go_wp2
  all_goals go_ret
  all_goals refine ⟨rfl, ?_⟩
  all_goals unfold TabS.obj
  all_goals rw [← TabS.cells_put (by omega)]
  all_goals exact ((((H2.swap.set _ _).set _ _).set _ _).take (Take.there _ (Take.here _ _))).drop.drew

set_option maxHeartbeats 400000 in
theorem hdrop_nil (H : Holds e w R) (x : Int) : Calls Tryz.prog 44 #[.pointer none, .int .i64 x] w (Ret e (.tuple #[PlaceS.zero.val, .bool false]) R) := by
  go_enter Tryz.func44, Tryz.ntmps44
  go_wp2_with fail
  refine (get_nil (H.alloc _) _).mono ?_
  rintro e w1 ⟨rfl, H1⟩
  unfold PlaceS.zero
  unfold PlaceS.val
  generalize w.heap.size = bx at *
  have hf := H1.frozen
  have hc := H1.cells
  have hlt := H1.lt
  go_wp2
  (refine bodyPost_at ((((H1.set 0 _).set 1 _).set 2 _).alloc _).swap fun w9 H9 => ?_; have hc9 := H9.cells; exact bodyPost_ret (v := .tuple #[PlaceS.zero.val, .bool false]) (by simp [results, Tryz.results44, go_sem, PlaceS.zero, PlaceS.val, hc9]) rfl ⟨rfl, H9.drop.drop⟩)

set_option maxHeartbeats 400000 in
theorem hdrop_no (H : Holds e w (pts b t.obj :: R)) (x : Int) (h : x < 1 ∨ 512 < x ∨ t.all x.toNat = PlaceS.zero) :
    Calls Tryz.prog 44 #[.pointer (some ⟨b, 0, none⟩), .int .i64 x] w (Ret e (.tuple #[PlaceS.zero.val, .bool false]) (pts b t.obj :: R)) := by
  have HK := Lib.hid h; clear h
  go_enter Tryz.func44, Tryz.ntmps44
  go_wp2_with fail
  refine (get_no (H.alloc _).swap _ HK.out).mono ?_
  rintro e w1 ⟨rfl, H1⟩
  unfold PlaceS.zero
  unfold PlaceS.val
  generalize w.heap.size = bx at *
  have H1' := H1.swap
  have hf := H1'.frozen
  have hc := H1'.cells
  have hlt := H1'.lt
  clear H1
  go_wp2
  (refine bodyPost_at ((((H1'.set 0 _).set 1 _).set 2 _).alloc _).swap fun w9 H9 => ?_; have hc9 := H9.cells; exact bodyPost_ret (v := .tuple #[PlaceS.zero.val, .bool false]) (by simp [results, Tryz.results44, go_sem, PlaceS.zero, PlaceS.val, hc9]) rfl ⟨rfl, H9.drop.drop⟩)

set_option maxHeartbeats 400000 in
theorem hdrop_yes (H : Holds e w (pts b t.obj :: R)) (x : Int) (h1 : 1 ≤ x) (h2 : x ≤ 512) (hne : t.all x.toNat ≠ PlaceS.zero) (hm : 0 ≤ t.many) (hm2 : t.many ≤ 512) :
    Calls Tryz.prog 44 #[.pointer (some ⟨b, 0, none⟩), .int .i64 x] w (Ret e (.tuple #[(t.all x.toNat).val, .bool true]) (pts b ({ t.put x.toNat PlaceS.zero with many := t.many - 1 } : TabS).obj :: R)) := by
  obtain ⟨h, rfl⟩ := Int.eq_ofNat_of_zero_le (show 0 ≤ x by omega)
  have HK := Lib.hid hne; clear hne
  rw [Int.toNat_natCast]
  go_enter Tryz.func44, Tryz.ntmps44
  go_wp2_with fail
  refine (get_yes (H.alloc _).swap _ h1 h2 HK.out).mono ?_
  rintro e w1 ⟨rfl, H1⟩
  try rw [Int.toNat_natCast]
  generalize hp : t.all h = p at *
  clear hp
  unfold PlaceS.val
  generalize w.heap.size = bx at *
  obtain ⟨c0, c1, c2⟩ := tab_cells H1 (h := h) (by omega)
  have c3 : w1.cell? ⟨b, 1539, none⟩ = some (.int .i64 t.many) := by unfold TabS.obj at H1; exact H1.cell TabS.cellMany
  have hfb := H1.frozen
  have hltb := H1.lt
  have H1' := H1.swap
  have hf := H1'.frozen
  have hc := H1'.cells
  have hlt := H1'.lt
  have hne := H1.ne
  go_wp2
  (refine bodyPost_at (((((((H1.set _ _).set _ _).set _ _).set 1539 _).swap.set 0 _).set 1 _).set 2 _ |>.alloc _).swap fun w9 H9 => ?_; have hc9 := H9.cells; exact bodyPost_ret (v := .tuple #[p.val, .bool true]) (by simp [results, Tryz.results44, go_sem,  PlaceS.val, hc9]) rfl ⟨rfl, (by unfold TabS.obj; have e1 := TabS.cells_put (t := t) (h := h) (by omega) PlaceS.zero; rw [← TabS.cells_many, ← e1]; exact H9.drop.drop)⟩)

end

end Go.Proofs.YtheblkofemobdaaGreat

/-
  Contracts of the package handle: Make, Of.
-/
namespace Go.Proofs.YtheblkofemobdaaGreat
open Go.RowKit

section
variable {e : Env} {w : World} {b : Nat} {t : TabS} {R : List HP}

set_option maxRecDepth 100000 in
set_option maxHeartbeats 400000 in
theorem hmake_nil (H : Holds e w R) (p : PlaceS) : Calls Tryz.prog 42 #[.pointer none, p.val] w (Ret e (.tuple #[.int .i64 0, .int .i64 (if p.ok then 11 else 1)]) R) := by
  by_cases hp : p.ok
  · have hv : (if p.ok then (11 : Int) else 1) = 11 := if_pos hp
    rw [hv]
    have HP := Lib.hid hp; clear hp hv
    unfold PlaceS.val
    go_enter Tryz.func42, Tryz.ntmps42
    go_wp2_with fail
    refine (hmay_yes (H.alloc _) p HP.out).mono ?_
    rintro e w1 ⟨rfl, H1⟩
    go_wp2
    go_ret2
    exact ⟨rfl, H1.drop⟩
  · have hv : (if p.ok then (11 : Int) else 1) = 1 := if_neg hp
    rw [hv]
    have HP := Lib.hid hp; clear hp hv
    unfold PlaceS.val
    go_enter Tryz.func42, Tryz.ntmps42
    go_wp2_with fail
    refine (hmay_no (H.alloc _) p HP.out).mono ?_
    rintro e w1 ⟨rfl, H1⟩
    go_wp2
    go_ret2
    exact ⟨rfl, H1.drop⟩

set_option maxRecDepth 100000 in
set_option maxHeartbeats 400000 in
theorem hmake_bad (H : Holds e w (pts b t.obj :: R)) (p : PlaceS) (hp : ¬ p.ok) : Calls Tryz.prog 42 #[.pointer (some ⟨b, 0, none⟩), p.val] w (Ret e (.tuple #[.int .i64 0, .int .i64 1]) (pts b t.obj :: R)) := by
  have HP := Lib.hid hp; clear hp
  unfold PlaceS.val
  go_enter Tryz.func42, Tryz.ntmps42
  go_wp2_with fail
  refine (hmay_no (H.alloc _) p HP.out).mono ?_
  rintro e w1 ⟨rfl, H1⟩
  go_wp2
  go_ret2
  exact ⟨rfl, H1.drop⟩

set_option maxRecDepth 100000 in
set_option maxHeartbeats 400000 in
theorem hmake_full (H : Holds e w (pts b t.obj :: R)) (p : PlaceS) (hp : p.ok) (hfull : ∀ h, 1 ≤ h → h ≤ 512 → t.all h ≠ PlaceS.zero) :
    Calls Tryz.prog 42 #[.pointer (some ⟨b, 0, none⟩), p.val] w (Ret e (.tuple #[.int .i64 0, .int .i64 11]) (pts b t.obj :: R)) := by
  have HP := Lib.hid hp; clear hp
  have HF := Lib.hid hfull; clear hfull
  unfold PlaceS.val
  go_enter Tryz.func42, Tryz.ntmps42
  go_wp2_with fail
  refine (hmay_yes (H.alloc _) p HP.out).mono ?_
  rintro e w1 ⟨rfl, H1⟩
  go_wp2
  go_loopw [12] (fun i wr => ∃ k : Nat, k ≤ 512 ∧ i = .int .i64 (k : Nat) ∧ Holds e wr (pts b t.obj :: R)) (fun i _ => 512 - (intOf i).toNat)
  case atStart => exact ⟨0, by omega, rfl, H1.drop⟩
  case round =>
    obtain ⟨k, hk, rfl, HH⟩ := hrel
    by_cases hlt : k < 512
    · go_wp2_with fail
      refine (retQ (in_yes HH _ (by omega) (by omega) (by rw [show ((k : Int) + 1).toNat = k + 1 by omega]; exact HF.out (k + 1) (by omega) (by omega))) HH).mono ?_
      rintro e w2 ⟨rfl, H2⟩
      go_wp2
      go_roundw
      case rel => exact ⟨k + 1, by omega, by go_num, H2⟩
      case measure => simp [intOf]; omega
    · go_wp2
      go_ret2
      exact ⟨rfl, HH⟩

set_option maxRecDepth 100000 in
set_option maxHeartbeats 400000 in
theorem hmake_at (H : Holds e w (pts b t.obj :: R)) (p : PlaceS) (hp : p.ok) (h : Nat) (h1 : 1 ≤ h) (h2 : h ≤ 512) (hz : t.all h = PlaceS.zero) (hused : ∀ h', 1 ≤ h' → h' < h → t.all h' ≠ PlaceS.zero) (hm : 0 ≤ t.many) (hm2 : t.many ≤ 512) :
    Calls Tryz.prog 42 #[.pointer (some ⟨b, 0, none⟩), p.val] w (Ret e (.tuple #[.int .i64 h, .int .i64 0]) (pts b ({ t.put h p with many := t.many + 1 } : TabS).obj :: R)) := by
  have HP := Lib.hid hp; clear hp
  have HF := Lib.hid hused; clear hused
  have HZ := Lib.hid hz; clear hz
  unfold PlaceS.val
  go_enter Tryz.func42, Tryz.ntmps42
  go_wp2_with fail
  refine (hmay_yes (H.alloc _) p HP.out).mono ?_
  rintro e w1 ⟨rfl, H1⟩
  generalize w.heap.size = bx at *
  go_wp2
  go_loopw [12] (fun i wr => ∃ k : Nat, k < h ∧ i = .int .i64 (k : Nat) ∧ Holds e wr (pts b t.obj :: pts bx (.cells #[.int .i64 p.page, .int .i64 p.obj, .int .i64 p.len] 51 (0, 0)) :: R)) (fun i _ => 512 - (intOf i).toNat)
  case atStart => exact ⟨0, by omega, rfl, H1.swap⟩
  case round =>
    obtain ⟨k, hk, rfl, HH⟩ := hrel
    by_cases hlt : k + 1 < h
    · go_wp2_with fail
      refine (retQ (in_yes HH _ (by omega) (by omega) (by rw [show ((k : Int) + 1).toNat = k + 1 by omega]; exact HF.out (k + 1) (by omega) (by omega))) HH).mono ?_
      rintro e w2 ⟨rfl, H2⟩
      go_wp2
      go_roundw
      case rel => exact ⟨k + 1, by omega, by go_num, H2⟩
      case measure => simp [intOf]; omega
    · obtain rfl : h = k + 1 := by omega
      go_wp2_with fail
      refine (retQ (in_no HH _ (.inr (.inr (by rw [show ((k : Int) + 1).toNat = k + 1 by omega]; exact HZ.out)))) HH).mono ?_
      rintro e w2 ⟨rfl, H2⟩
      obtain ⟨c0, c1, c2⟩ := tab_cells H2 (h := k + 1) (by omega)
      have c3 : w2.cell? ⟨b, 1539, none⟩ = some (.int .i64 t.many) := by unfold TabS.obj at H2; exact H2.cell TabS.cellMany
      have hfb := H2.frozen
      have hc := H2.swap.cells
      go_wp2
      go_region
      all_goals go_wp2
      all_goals go_ret2
      all_goals refine ⟨by simp; try omega, ?_⟩
      all_goals unfold TabS.obj
      all_goals rw [← TabS.cells_many]
      all_goals have e1 := TabS.cells_put (t := t) (h := k + 1) (by omega) p
      all_goals rw [← e1]
      all_goals first | exact (((((H2.set _ _).set _ _).set _ _).set 1539 _).drew.take (Take.there _ (Take.here _ _))).drop | exact (((((H2.set _ _).set _ _).set _ _).drew.set 1539 _).take (Take.there _ (Take.here _ _))).drop

end

def TabS.inb (t : TabS) (x : Int) : Bool := decide (1 ≤ x ∧ x ≤ 512 ∧ t.all x.toNat ≠ PlaceS.zero)
def TabS.free (t : TabS) : Option Nat := ((List.range 512).find? fun k => decide (t.all (k + 1) = PlaceS.zero)).map (· + 1)
def TabS.make (t : TabS) (p : PlaceS) : (Int × Int) × TabS :=
  if p.ok then match t.free with
    | some h => ((h, 0), { t.put h p with many := t.many + 1 })
    | none => ((0, 11), t)
  else ((0, 1), t)
def TabS.get (t : TabS) (x : Int) : PlaceS × Bool := if t.inb x then (t.all x.toNat, true) else (PlaceS.zero, false)
def TabS.set (t : TabS) (x : Int) (p : PlaceS) : Bool × TabS := if t.inb x ∧ p.ok then (true, t.put x.toNat p) else (false, t)
def TabS.drop (t : TabS) (x : Int) : (PlaceS × Bool) × TabS := if t.inb x then ((t.all x.toNat, true), { t.put x.toNat PlaceS.zero with many := t.many - 1 }) else ((PlaceS.zero, false), t)

theorem TabS.inb_no {t : TabS} {x : Int} (h : t.inb x = false) : x < 1 ∨ 512 < x ∨ t.all x.toNat = PlaceS.zero := by
  unfold TabS.inb at h
  simp only [decide_eq_false_iff_not] at h
  apply Classical.byContradiction
  intro hn
  exact h ⟨by omega, by omega, fun e => hn (.inr (.inr e))⟩
theorem TabS.inb_yes {t : TabS} {x : Int} (h : t.inb x = true) : 1 ≤ x ∧ x ≤ 512 ∧ t.all x.toNat ≠ PlaceS.zero := by
  unfold TabS.inb at h
  exact of_decide_eq_true h

theorem TabS.free_some {t : TabS} {h : Nat} (hf : t.free = some h) : 1 ≤ h ∧ h ≤ 512 ∧ t.all h = PlaceS.zero ∧ ∀ h', 1 ≤ h' → h' < h → t.all h' ≠ PlaceS.zero := by
  unfold TabS.free at hf
  cases hk : (List.range 512).find? (fun k => decide (t.all (k + 1) = PlaceS.zero)) with
  | none => rw [hk] at hf; cases hf
  | some k =>
    rw [hk] at hf
    simp at hf
    subst hf
    have h1 := List.find?_some hk
    have h2 := List.mem_of_find?_eq_some hk
    simp at h1 h2
    refine ⟨by omega, by omega, h1, fun h' hh hlt e => ?_⟩
    have := (List.find?_range_eq_some.1 hk).2.2 (h' - 1) (by omega)
    rw [show h' - 1 + 1 = h' by omega] at this
    simp at this
    exact this e
theorem TabS.free_none {t : TabS} (hf : t.free = none) : ∀ h, 1 ≤ h → h ≤ 512 → t.all h ≠ PlaceS.zero := by
  intro h h1 h2 e
  unfold TabS.free at hf
  simp at hf
  have := hf (h - 1) (by omega)
  rw [show h - 1 + 1 = h by omega] at this
  exact this e

section
variable {e : Env} {w : World} {b : Nat} {t : TabS} {R : List HP}

theorem hmake (H : Holds e w (pts b t.obj :: R)) (p : PlaceS) (hm : 0 ≤ t.many) (hm2 : t.many ≤ 512) :
    Calls Tryz.prog 42 #[.pointer (some ⟨b, 0, none⟩), p.val] w (Ret e (.tuple #[.int .i64 (t.make p).1.1, .int .i64 (t.make p).1.2]) (pts b (t.make p).2.obj :: R)) := by
  unfold TabS.make
  by_cases hp : p.ok
  · rw [if_pos hp]
    cases hf : t.free with
    | none => exact hmake_full H p hp (TabS.free_none hf)
    | some h =>
      obtain ⟨h1, h2, h3, h4⟩ := TabS.free_some hf
      exact hmake_at H p hp h h1 h2 h3 h4 hm hm2
  · rw [if_neg hp]
    exact hmake_bad H p hp

theorem hget (H : Holds e w (pts b t.obj :: R)) (x : Int) :
    Calls Tryz.prog 57 #[.pointer (some ⟨b, 0, none⟩), .int .i64 x] w (Ret e (.tuple #[(t.get x).1.val, .bool (t.get x).2]) (pts b t.obj :: R)) := by
  unfold TabS.get
  cases hi : t.inb x with
  | false => exact get_no H x (TabS.inb_no hi)
  | true => obtain ⟨h1, h2, h3⟩ := TabS.inb_yes hi; exact get_yes H x h1 h2 h3

theorem hset (H : Holds e w (pts b t.obj :: R)) (x : Int) (p : PlaceS) :
    Calls Tryz.prog 59 #[.pointer (some ⟨b, 0, none⟩), .int .i64 x, p.val] w (Ret e (.bool (t.set x p).1) (pts b (t.set x p).2.obj :: R)) := by
  unfold TabS.set
  by_cases hp : p.ok
  · cases hi : t.inb x with
    | false => simp only [Bool.false_eq_true, false_and, if_false]; exact hset_no H x p (.inl (TabS.inb_no hi))
    | true => obtain ⟨h1, h2, h3⟩ := TabS.inb_yes hi; simp only [hp, and_self, if_true]; exact hset_yes H x p h1 h2 h3 hp
  · simp only [hp, and_false, if_false]; exact hset_no H x p (.inr hp)

theorem hdrop (H : Holds e w (pts b t.obj :: R)) (x : Int) (hm : 0 ≤ t.many) (hm2 : t.many ≤ 512) :
    Calls Tryz.prog 44 #[.pointer (some ⟨b, 0, none⟩), .int .i64 x] w (Ret e (.tuple #[(t.drop x).1.1.val, .bool (t.drop x).1.2]) (pts b (t.drop x).2.obj :: R)) := by
  unfold TabS.drop
  cases hi : t.inb x with
  | false => exact hdrop_no H x (TabS.inb_no hi)
  | true => obtain ⟨h1, h2, h3⟩ := TabS.inb_yes hi; exact hdrop_yes H x h1 h2 h3 hm hm2
end

end Go.Proofs.YtheblkofemobdaaGreat

/-
  Package pool: what a pool is in memory.
-/
namespace Go.Proofs.YtheblkofemobdaaGreat
open Go.RowKit

def ptrV (b : Nat) : Value := .pointer (some ⟨b, 0, none⟩)
abbrev PE := Option (Nat × PgS)
def peG (x : PE) : Option PgS := x.map (·.2)
def pgE : PE → HP
  | some (b, g) => pgH b g
  | none => pur True
def ptrE : PE → Value
  | some (b, _) => ptrV b
  | none => .pointer none
structure PoolS where
  tab : TabS
  pgs : List (Option PgS)
  bks : Nat → Bk
def poolA (t rb : Nat) (v : Value) (ps : List Value) : Array Value := (ptrV t :: ptrV rb :: v :: ps).toArray
def poolO (t rb : Nat) (v : Value) (ps : List Value) : Obj := .cells (poolA t rb v ps) 85 (0, 0)
def bkH (bks : Nat → Bk) (p : Nat × Nat) : HP := grpB p.1 (bks p.2)
structure PQ where
  v : Value
  bs : List Nat
  E : List PE
def poolBody (b tb rb : Nat) (S : PoolS) (q : PQ) : HP := grp [pur (q.E.map peG = S.pgs ∧ q.bs.length = 64), pts b (poolO tb rb q.v (q.bs.map ptrV)), pts tb S.tab.obj, row q.v 90 1 q.E.length (q.E.map ptrE), all pgE q.E, all (bkH S.bks) q.bs.zipIdx]
/-- The pool in block b, whose table lies in block tb and whose RAM in block rb (the RAM itself apart). -/
def poolH (b tb rb : Nat) (S : PoolS) : HP := exh (poolBody b tb rb S)

theorem poolA_lo (t rb : Nat) (v : Value) (ps : List Value) : (poolA t rb v ps)[0]? = some (ptrV t) ∧ (poolA t rb v ps)[1]? = some (ptrV rb) ∧ (poolA t rb v ps)[2]? = some v := ⟨rfl, rfl, rfl⟩
theorem poolA_hi (t rb : Nat) (v : Value) (ps : List Value) (c : Nat) : (poolA t rb v ps)[3 + c]? = ps[c]? := by
  simp [poolA, show 3 + c = c + 3 by omega]
theorem poolA_set2 (t rb : Nat) (v v' : Value) (ps : List Value) : (poolA t rb v ps).setIfInBounds 2 v' = poolA t rb v' ps := by
  simp [poolA]
theorem poolA_set (t rb : Nat) (v : Value) (ps : List Value) (c : Nat) (u : Value) : (poolA t rb v ps).setIfInBounds (3 + c) u = poolA t rb v (ps.set c u) := by
  simp [poolA, show 3 + c = c + 3 by omega]

theorem wpList_buildE {P : Program} {ops : Array Oper} {rest : List Oper} {o : Oper} {a : Act} {w : World} {Q : Exit → Act → World → Prop} (hgd : o.guard = none) (t : TypeId) (i j : Nat) (x y : Operand) (ho : o.op = .build t #[(i, x), (j, y)]) (u v : Value) (hu : a.eval x = u) (hv : a.eval y = v) (cs : Array Value)
    (hr : ∀ w, (Instr.build t #[(i, u), (j, v)]).run P w = .ok (.agg cs) w) (h : wpList P ops Q rest (a.put o.dst (.agg cs)) w) : wpList P ops Q (o :: rest) a w :=
  wpList_plain hgd fun _ hK => by
    unfold Oper.wp execOp
    simp only [ho, List.map_toArray, List.map_cons, List.map_nil, hu, hv, Sem.run_bind, hr, Result.andThen_ok, Sem.run_pure]
    exact hK _ _ h
def poolZ (t rb : Nat) : Array Value := poolA t rb (.slice none 0 0) (List.replicate 64 (.pointer none))
theorem pool_build (t rb : Nat) (w : World) : (Instr.build 85 #[(0, .agg #[ptrV t]), (1, ptrV rb)]).run Tryz.prog w = .ok (.agg (poolZ t rb)) w := by kernel_rfl
section
variable {e : Env} {w : World} {R : List HP} {b tb rb : Nat} {S : PoolS}
theorem pool_open (H : Holds e w (poolH b tb rb S :: R)) : ∃ (a : Option Addr) (c : Nat) (bs : List Nat) (E : List PE), E.map peG = S.pgs ∧ bs.length = 64 ∧
    Holds e w (pts b (poolO tb rb (.slice a E.length c) (bs.map ptrV)) :: pts tb S.tab.obj :: row (.slice a E.length c) 90 1 E.length (E.map ptrE) :: all pgE E :: all (bkH S.bks) bs.zipIdx :: R) := by
  obtain ⟨⟨v, bs, E⟩, h⟩ := Holds.exE H
  have h2 := h.ungrp
  obtain ⟨h3, h4⟩ := h2.purE
  have h5 : Holds e w (_ :: _ :: row v 90 1 E.length (E.map ptrE) :: _) := h2.drop
  obtain ⟨a, c, rfl⟩ := row_shape h5.p2
  exact ⟨a, c, bs, E, h3, h4, h5⟩
theorem pool_close {v : Value} {bs : List Nat} {E : List PE} (hE : E.map peG = S.pgs) (hb : bs.length = 64)
    (H : Holds e w (pts b (poolO tb rb v (bs.map ptrV)) :: pts tb S.tab.obj :: row v 90 1 E.length (E.map ptrE) :: all pgE E :: all (bkH S.bks) bs.zipIdx :: R)) : Holds e w (poolH b tb rb S :: R) :=
  Holds.mkExh ⟨v, bs, E⟩ (Holds.mkGrp (L := [_, _, _, _, _, _]) (Holds.mkPur ⟨hE, hb⟩ H))
def PoolS.new : PoolS := ⟨TabS.zero, [], fun _ _ => none⟩
theorem bk_congr {bks bks' : Nat → Bk} {l : List (Nat × Nat)} (h : ∀ p ∈ l, bks p.2 = bks' p.2) : all (bkH bks) l = all (bkH bks') l := by
  unfold all
  congr 1
  apply List.map_congr_left
  intro p hp
  unfold bkH
  rw [h p hp]
theorem ps_set {bs : List Nat} {k nb : Nat} (hb : bs.length = k) (hk : k < 64) : (bs.map ptrV ++ List.replicate (64 - k) (Value.pointer none)).set k (ptrV nb) = (bs ++ [nb]).map ptrV ++ List.replicate (64 - (k + 1)) (.pointer none) := by
  rw [List.set_append_right _ _ (by simp [hb]), List.length_map, hb, Nat.sub_self, show 64 - k = (64 - (k + 1)) + 1 by omega, List.replicate_succ, List.set_cons_zero]
  simp
set_option maxRecDepth 100000 in
set_option maxHeartbeats 1000000 in
theorem poNew (H : Holds e w R) (rb : Nat) : Calls Tryz.prog 10 #[.pointer (some ⟨rb, 0, none⟩)] w (RetEx e (fun q : Nat × Nat => .pointer (some ⟨q.1, 0, none⟩)) (fun q => poolH q.1 q.2 rb PoolS.new :: R)) := by
  have cT := tabNew_any H
  go_enter Tryz.func10, Tryz.ntmps10
  go_wp2_with fail
  refine cT.mono ?_
  rintro en w1 ⟨t, rfl, H1⟩
  have H2 := H1.alloc (.cells (poolZ t rb) 85)
  go_wp2_with (refine wpList_buildE rfl 85 0 1 _ _ rfl (.agg #[ptrV t]) (ptrV rb) rfl rfl (poolZ t rb) (pool_build t rb) ?_)
  obtain ⟨bp, hbp⟩ : ∃ bp, w1.heap.size = bp := ⟨_, rfl⟩
  rw [hbp] at H2 ⊢
  have H3 : Holds e _ (pts bp (poolO t rb (.slice none 0 0) (([] : List Nat).map ptrV ++ List.replicate (64 - 0) (.pointer none))) :: all (bkH fun _ _ => none) ([] : List Nat).zipIdx :: pts t TabS.zero.obj :: R) := H2.swap.allNil.p2
  clear H1 H2
  go_loopw [12] (fun i wr => ∃ (k : Nat) (bs : List Nat), k ≤ 64 ∧ i = .int .i64 (k : Nat) ∧ bs.length = k ∧ Holds e wr (pts bp (poolO t rb (.slice none 0 0) (bs.map ptrV ++ List.replicate (64 - k) (.pointer none))) :: all (bkH fun _ _ => none) bs.zipIdx :: pts t TabS.zero.obj :: R)) (fun i _ => 64 - (intOf i).toNat)
  case atStart => exact ⟨0, [], by omega, rfl, rfl, H3⟩
  case round =>
    obtain ⟨k, bs, hk, rfl, hbs, HX⟩ := hrel
    by_cases hlt : k < 64
    · have HNEW : Hid (∀ w' X, Holds e w' X → Calls Tryz.prog 39 #[] w' (RetEx e (fun b : Nat => .pointer (some ⟨b, 0, none⟩)) (fun b => grpB b (fun _ => none) :: X))) := Lib.hid fun w' X h => gNew h
      have HD := HX.drawn (wr.drawn + 1)
      have hpk : (bs.map ptrV ++ List.replicate (64 - k) (Value.pointer none))[k]? = some (.pointer none) := by
        rw [List.getElem?_append_right (by simp [hbs]), List.length_map, hbs, Nat.sub_self, List.getElem?_replicate, if_pos (by omega)]
      have HCE : Hid (∀ w' X Y, Holds e w' (Y :: pts bp (poolO t rb (.slice none 0 0) (bs.map ptrV ++ List.replicate (64 - k) (.pointer none))) :: X) → w'.cell? ⟨bp, 3 + k, none⟩ = some (.pointer none) ∧ w'.frozen? ⟨bp, 3 + k, none⟩ = false) :=
        Lib.hid fun w' X Y h => ⟨by rw [h.swap.cells, poolA_hi, hpk], h.swap.frozen _⟩
      have HBS := Lib.hid hbs
      clear hbs hpk
      go_wp2_with fail
      go_region_with (go_at_call 39; refine (HNEW.out _ _ HD).mono ?_; rintro e w4 ⟨nb, rfl, HN⟩; obtain ⟨hcn, hfn⟩ := HCE.out _ _ _ HN)
      have H5 := HN.swap.set (3 + k) (ptrV nb)
      rw [poolA_set, ps_set HBS.out hlt] at H5
      have H6 := Holds.swap (Holds.allSnoc (f := bkH fun _ _ => none) (l := bs.zipIdx) (x := (nb, k)) H5.q2)
      have e1 : bs.zipIdx ++ [(nb, k)] = (bs ++ [nb]).zipIdx := by rw [List.zipIdx_append, HBS.out]; simp
      rw [e1] at H6
      have H6 := Lib.hid H6
      clear HX HD HN HCE HNEW hcn hfn H5 e1
      go_wp2_with fail
      go_roundw
      case rel => exact ⟨k + 1, bs ++ [nb], by omega, by go_num, by simp [HBS.out], H6.out⟩
      case measure => simp [intOf]; omega
    · obtain rfl : k = 64 := by omega
      go_wp2_with fail
      go_ret
      refine ⟨(bp, t), rfl, pool_close (S := PoolS.new) (E := []) (v := .slice none 0 0) rfl hbs ?_⟩
      rw [Nat.sub_self, List.replicate_zero, List.append_nil] at HX
      exact (row.nil 90 1 (Holds.allNil (f := pgE) HX)).p4.p3
end
end Go.Proofs.YtheblkofemobdaaGreat

/-
  Package pool: a page and its book in hand; note.
-/
namespace Go.Proofs.YtheblkofemobdaaGreat
open Go.RowKit

def updB (bks : Nat → Bk) (c : Nat) (B : Bk) : Nat → Bk := fun k => if k = c then B else bks k
theorem zip_get {bs : List Nat} {c bb : Nat} (h : bs[c]? = some bb) : bs.zipIdx[c]? = some (bb, c) := by
  rw [List.getElem?_zipIdx, h]; simp
theorem zip_erase {bs : List Nat} {c : Nat} : ∀ p ∈ bs.zipIdx.eraseIdx c, p.2 ≠ c := by
  intro p hp
  rw [List.mem_eraseIdx_iff_getElem?] at hp
  obtain ⟨i, hi, hpi⟩ := hp
  rw [List.getElem?_zipIdx] at hpi
  cases hb : bs[i]? with
  | none => rw [hb] at hpi; cases hpi
  | some x => rw [hb] at hpi; cases hpi; simpa using hi
section
variable {e : Env} {w : World} {R A : List HP} {b tb rb : Nat} {S : PoolS}
theorem bk_focus {bks : Nat → Bk} {bs : List Nat} {c bb : Nat} (hc : bs[c]? = some bb) (H : Holds e w (all (bkH bks) bs.zipIdx :: A)) : Holds e w (grpB bb (bks c) :: all (bkH bks) (bs.zipIdx.eraseIdx c) :: A) :=
  Holds.focus (f := bkH bks) (zip_get hc) H
theorem bk_unfocus {bks : Nat → Bk} {bs : List Nat} {c bb : Nat} {B : Bk} (hc : bs[c]? = some bb) (H : Holds e w (grpB bb B :: all (bkH bks) (bs.zipIdx.eraseIdx c) :: A)) : Holds e w (all (bkH (updB bks c B)) bs.zipIdx :: A) := by
  refine Holds.unfocus' (f := bkH (updB bks c B)) (zip_get hc) ?_
  rw [bk_congr (bks := updB bks c B) (bks' := bks) (fun p hp => by unfold updB; rw [if_neg (zip_erase p hp)])]
  have e1 : bkH (updB bks c B) (bb, c) = grpB bb B := by unfold bkH updB; simp
  rw [e1]
  exact H
theorem updB_self (bks : Nat → Bk) (c : Nat) : updB bks c (bks c) = bks := by
  funext k; unfold updB; split
  · next h => rw [h]
  · rfl
theorem E_get {E : List PE} {pgs : List (Option PgS)} {n : Nat} {g : PgS} (hE : E.map peG = pgs) (hn : pgs[n]? = some (some g)) : ∃ pb, E[n]? = some (some (pb, g)) := by
  rw [← hE, List.getElem?_map] at hn
  cases h : E[n]? with
  | none => rw [h] at hn; cases hn
  | some x =>
    rw [h] at hn
    cases x with
    | none => cases hn
    | some y => cases hn; exact ⟨y.1, rfl⟩
theorem E_ptr {E : List PE} {n pb : Nat} {g g' : PgS} (h : E[n]? = some (some (pb, g))) : (E.set n (some (pb, g'))).map ptrE = E.map ptrE := by
  rw [List.map_set]
  apply List.ext_getElem?
  intro i
  rw [List.getElem?_set]
  split
  · next hi => subst hi; rw [List.getElem?_map, h]; simp [ptrE, (List.getElem?_eq_some_iff.1 h).1]
  · rfl
/-- A page and its class's book in hand. -/
theorem pool_at (H : Holds e w (poolH b tb rb S :: R)) {n : Nat} {g : PgS} (hn : S.pgs[n]? = some (some g)) {cl : Nat} (hc : cl < 64) :
    ∃ (p0 o0 c : Nat) (bs : List Nat) (E : List PE) (pb bb : Nat), E.map peG = S.pgs ∧ bs.length = 64 ∧ E[n]? = some (some (pb, g)) ∧ bs[cl]? = some bb ∧
      (∀ w' X, Holds e w' (row (.slice (some ⟨p0, o0, none⟩) E.length c) 90 1 E.length (E.map ptrE) :: X) → w'.cell? ⟨p0, o0 + n, none⟩ = some (ptrV pb) ∧ w'.frozen? ⟨p0, o0 + n, none⟩ = false) ∧
      Holds e w (pgH pb g :: grpB bb (S.bks cl) :: pts b (poolO tb rb (.slice (some ⟨p0, o0, none⟩) E.length c) (bs.map ptrV)) :: row (.slice (some ⟨p0, o0, none⟩) E.length c) 90 1 E.length (E.map ptrE) :: pts tb S.tab.obj :: all pgE (E.eraseIdx n) :: all (bkH S.bks) (bs.zipIdx.eraseIdx cl) :: R) := by
  obtain ⟨a, c, bs, E, hE, hb, h⟩ := pool_open H
  obtain ⟨pb, hpb⟩ := E_get hE hn
  obtain ⟨bb, hbb⟩ : ∃ bb, bs[cl]? = some bb := ⟨_, List.getElem?_eq_getElem (by omega)⟩
  have hlen : n < E.length := (List.getElem?_eq_some_iff.1 hpb).1
  obtain ⟨p0, o0, rfl, _⟩ := (row.reads h.p2).at (by omega)
  refine ⟨p0, o0, c, bs, E, pb, bb, hE, hb, hpb, hbb, fun w' X h' => ?_, ?_⟩
  · have hcl : w'.cell? ⟨p0, o0 + n, none⟩ = some (ptrV pb) := by
      obtain ⟨p1, o1, h7, hel⟩ := (row.reads h').at (by omega)
      cases h7
      exact hel n _ (by rw [List.getElem?_map, hpb]; rfl)
    refine ⟨hcl, ?_⟩
    rcases (row.open h').2 with ⟨h0, _⟩ | ⟨g1, cap, cur, h0, _, _, _, _, h5⟩
    · cases h0
    · cases h0; exact h5.frozen _
  · have h2 := bk_focus hbb h.p4
    have h3 : Holds e w (all pgE E :: grpB bb (S.bks cl) :: all (bkH S.bks) (bs.zipIdx.eraseIdx cl) :: pts b (poolO tb rb (.slice (some ⟨p0, o0, none⟩) E.length c) (bs.map ptrV)) :: pts tb S.tab.obj :: row (.slice (some ⟨p0, o0, none⟩) E.length c) 90 1 E.length (E.map ptrE) :: R) := h2.p5
    have h4 := Holds.focus (f := pgE) hpb h3
    have h5 : Holds e w (pgH pb g :: all pgE (E.eraseIdx n) :: grpB bb (S.bks cl) :: all (bkH S.bks) (bs.zipIdx.eraseIdx cl) :: pts b (poolO tb rb (.slice (some ⟨p0, o0, none⟩) E.length c) (bs.map ptrV)) :: pts tb S.tab.obj :: row (.slice (some ⟨p0, o0, none⟩) E.length c) 90 1 E.length (E.map ptrE) :: R) := h4
    refine h5.cons fun _ s => ?_
    -- from: pages, book, books, pool, table, row; to: book, pool, row, table, pages, books
    refine Sat.cons (fun _ s => ?_) (Sat.q1 s)
    -- pages, books, pool, table, row -> pool, row, table, pages, books
    have s1 := (Take.there _ (Take.there _ (Take.here _ _))) _ s
    refine Sat.cons (fun _ s => ?_) s1
    have s2 := (Take.there _ (Take.there _ (Take.there _ (Take.here _ _)))) _ s
    refine Sat.cons (fun _ s => ?_) s2
    exact (Take.there _ (Take.there _ (Take.here _ _))) _ s
theorem pool_back {n : Nat} {g g' : PgS} {cl : Nat} {v : Value} {bs : List Nat} {E : List PE} {pb bb : Nat} {B : Bk} {tab : TabS} (hE : E.map peG = S.pgs) (hb : bs.length = 64) (hpb : E[n]? = some (some (pb, g))) (hbb : bs[cl]? = some bb)
    (H : Holds e w (pgH pb g' :: grpB bb B :: pts b (poolO tb rb v (bs.map ptrV)) :: row v 90 1 E.length (E.map ptrE) :: pts tb tab.obj :: all pgE (E.eraseIdx n) :: all (bkH S.bks) (bs.zipIdx.eraseIdx cl) :: R)) :
    Holds e w (poolH b tb rb ⟨tab, S.pgs.set n (some g'), updB S.bks cl B⟩ :: R) := by
  have hlen : n < E.length := (List.getElem?_eq_some_iff.1 hpb).1
  have h1 : Holds e w (pgH pb g' :: all pgE (E.eraseIdx n) :: grpB bb B :: pts b (poolO tb rb v (bs.map ptrV)) :: row v 90 1 E.length (E.map ptrE) :: pts tb tab.obj :: all (bkH S.bks) (bs.zipIdx.eraseIdx cl) :: R) := H.p5.swap
  have h2 := Holds.unfocus (f := pgE) (y := some (pb, g')) hlen h1
  have h3 : Holds e w (grpB bb B :: all (bkH S.bks) (bs.zipIdx.eraseIdx cl) :: all pgE (E.set n (some (pb, g'))) :: pts b (poolO tb rb v (bs.map ptrV)) :: row v 90 1 E.length (E.map ptrE) :: pts tb tab.obj :: R) := h2.p5.p2
  have h4 := bk_unfocus hbb h3
  refine pool_close (S := ⟨tab, S.pgs.set n (some g'), updB S.bks cl B⟩) (E := E.set n (some (pb, g'))) (v := v) (bs := bs) (by rw [List.map_set, hE]; rfl) hb ?_
  rw [E_ptr hpb, List.length_set]
  -- books, pages, pool, row, table -> pool, table, row, pages, books
  exact h4.p3.p4.p4.imp fun _ s => Sat.cons (fun _ s => Sat.cons (fun _ s => Sat.cons (fun _ s => Sat.q1 s) s) s) s
end
end Go.Proofs.YtheblkofemobdaaGreat

/-
  Package pool: note.
-/
namespace Go.Proofs.YtheblkofemobdaaGreat
open Go.RowKit

section
variable {e : Env} {w : World} {R A : List HP} {b tb rb : Nat} {S : PoolS} {M : RamS}
theorem set_same {α : Type} {l : List α} {n : Nat} {x : α} (h : l[n]? = some x) : l.set n x = l := by
  apply List.ext_getElem?
  intro i
  rw [List.getElem?_set]
  split
  · next hi => subst hi; rw [if_pos (List.getElem?_eq_some_iff.1 h).1, h]
  · rfl
set_option maxRecDepth 100000 in
set_option maxHeartbeats 1000000 in
theorem poNote_used (H : Holds e w (poolH b tb rb S :: R)) {n : Nat} {g : PgS} (hn : S.pgs[n]? = some (some g)) (h4 : n ≤ 4095) (hc : g.cls < 64) (hu : 0 < cnt g.set) :
    Calls Tryz.prog 46 #[.pointer (some ⟨b, 0, none⟩), .int .i64 n] w
      (Ret e (.tuple #[]) (poolH b tb rb ⟨S.tab, S.pgs, updB S.bks g.cls (bput (S.bks g.cls) n (cnt g.set, g.set.length))⟩ :: R)) := by
  obtain ⟨p0, o0, c, bs, E, pb, bb, hE, hb, hpb, hbb, HPC, h⟩ := pool_at H hn hc
  have hcl := cnt_le g.set
  have hi0 : (0 : Int) ≤ (g.cls : Int) := by omega
  have hi1 : (g.cls : Int) < 64 := by omega
  have hlen : n < E.length := (List.getElem?_eq_some_iff.1 hpb).1
  have HU : Hid (∀ w' X, Holds e w' (pgH pb g :: X) → Calls Tryz.prog 48 #[.pointer (some ⟨pb, 0, none⟩)] w' (Ret e (.int .i64 (cnt g.set)) (pgH pb g :: X))) := Lib.hid fun w' X h => retQ (pgUsed h) h
  have HM : Hid (∀ w' X, Holds e w' (pgH pb g :: X) → Calls Tryz.prog 49 #[.pointer (some ⟨pb, 0, none⟩)] w' (Ret e (.int .i64 g.set.length) (pgH pb g :: X))) := Lib.hid fun w' X h => retQ (pgMany h) h
  have HC : Hid (∀ w' X, Holds e w' (pgH pb g :: X) → Calls Tryz.prog 47 #[.pointer (some ⟨pb, 0, none⟩)] w' (Ret e (.int .i64 g.cls) (pgH pb g :: X))) := Lib.hid fun w' X h => retQ (pgClass h) h
  have HPUT : Hid (∀ w' X, Holds e w' (pgH pb g :: grpB bb (S.bks g.cls) :: X) → Calls Tryz.prog 79 #[.pointer (some ⟨bb, 0, none⟩), .int .i64 n, .int .i64 (cnt g.set), .int .i64 g.set.length] w' (Ret e (.bool true) (pgH pb g :: grpB bb (bput (S.bks g.cls) n (cnt g.set, g.set.length)) :: X))) :=
    Lib.hid fun w' X h => (gPut h.swap h4 hcl).mono fun en w'' ⟨h1, h2⟩ => ⟨h1, h2.swap⟩
  have HK : Hid (∀ w' X0 X1 X, Holds e w' (X0 :: X1 :: pts b (poolO tb rb (.slice (some ⟨p0, o0, none⟩) E.length c) (bs.map ptrV)) :: X) → w'.cell? ⟨b, 3 + g.cls, none⟩ = some (.pointer (some ⟨bb, 0, none⟩))) :=
    Lib.hid fun w' X0 X1 X h => by rw [h.p2.cells, poolA_hi, List.getElem?_map, hbb]; rfl
  have k1 := HK.out _ _ _ _ h
  have k2 : w.cell? ⟨b, 2, none⟩ = some (.slice (some ⟨p0, o0, none⟩) E.length c) := h.p2.cells 2
  have k3 : w.cell? ⟨p0, o0 + n, none⟩ = some (.pointer (some ⟨pb, 0, none⟩)) := (HPC _ _ h.p3).1
  have HB := Lib.hid fun (w' : World) (h : Holds e w' (pgH pb g :: grpB bb (bput (S.bks g.cls) n (cnt g.set, g.set.length)) :: pts b (poolO tb rb (.slice (some ⟨p0, o0, none⟩) E.length c) (bs.map ptrV)) :: row (.slice (some ⟨p0, o0, none⟩) E.length c) 90 1 E.length (E.map ptrE) :: pts tb S.tab.obj :: all pgE (E.eraseIdx n) :: all (bkH S.bks) (bs.zipIdx.eraseIdx g.cls) :: R)) => pool_back (S := S) (tab := S.tab) (n := n) (g := g) hE hb hpb hbb h
  rw [set_same hn] at HB
  clear hE hb hpb hbb HPC H
  generalize hN : cnt g.set = u at *
  generalize g.set.length = m at *
  go_enter Tryz.func46, Tryz.ntmps46
  go_wp2_with fail
  refine (HU.out _ _ h).mono ?_
  rintro en w1 ⟨rfl, H1⟩
  have HD := H1.drawn (w1.drawn + 1)
  have k4 := HK.out _ _ _ _ H1
  clear h k1 k2 k3 hN
  go_wp2_with fail
  first | go_region_held3 (fun w' => w'.cell? ⟨b, 3 + g.cls, none⟩ = some (.pointer (some ⟨bb, 0, none⟩)))
    (exact HK.out _ _ _ _ (by assumption))
    (first
      | (go_at_call 47; refine (HC.out _ _ (by assumption)).mono ?_; rintro e w4 ⟨rfl, HN⟩)
      | (go_at_call 48; refine (HU.out _ _ (by assumption)).mono ?_; rintro e w4 ⟨rfl, HN⟩)
      | (go_at_call 49; refine (HM.out _ _ (by assumption)).mono ?_; rintro e w4 ⟨rfl, HN⟩)
      | (go_at_call 79; refine (HPUT.out _ _ (by assumption)).mono ?_; rintro e w4 ⟨rfl, HN⟩)) | fail
  all_goals
    go_wp2_with fail
    refine bodyPost_ret (results_none rfl _ _ _) rfl ?_
    exact ⟨rfl, HB.out _ HN⟩

theorem row.set {g o n c i : Nat} {T : TypeId} {xs : List Value} (H : Holds e w (row (.slice (some ⟨g, o, none⟩) n c) T 1 n xs :: A)) (v : Value) :
    Holds e (w.setCell ⟨g, o + i, none⟩ v) (row (.slice (some ⟨g, o, none⟩) n c) T 1 n (xs.set i v) :: A) := by
  rcases (row.open H).2 with ⟨h0, _⟩ | ⟨g1, cap, cur, h0, h1, h2, h3, h4, h5⟩
  · cases h0
  · cases h0
    rw [Nat.zero_add]
    have h6 := h5.set i v
    refine row.made h6 h1 h2 (by simp [h3]) ?_
    rw [← h4, Nat.mul_one, Array.toList_setIfInBounds, List.take_set]
theorem pool_none {n : Nat} {g : PgS} {cl : Nat} {v : Value} {bs : List Nat} {E : List PE} {pb bb : Nat} {B : Bk} {tab : TabS} (hE : E.map peG = S.pgs) (hb : bs.length = 64) (hpb : E[n]? = some (some (pb, g))) (hbb : bs[cl]? = some bb)
    (H : Holds e w (row v 90 1 E.length ((E.map ptrE).set n (.pointer none)) :: grpB bb B :: pts b (poolO tb rb v (bs.map ptrV)) :: pts tb tab.obj :: all pgE (E.eraseIdx n) :: all (bkH S.bks) (bs.zipIdx.eraseIdx cl) :: R)) :
    Holds e w (poolH b tb rb ⟨tab, S.pgs.set n none, updB S.bks cl B⟩ :: R) := by
  have hlen : n < E.length := (List.getElem?_eq_some_iff.1 hpb).1
  have h1 : Holds e w (pgE none :: all pgE (E.eraseIdx n) :: row v 90 1 E.length ((E.map ptrE).set n (.pointer none)) :: grpB bb B :: pts b (poolO tb rb v (bs.map ptrV)) :: pts tb tab.obj :: all (bkH S.bks) (bs.zipIdx.eraseIdx cl) :: R) := Holds.mkPur trivial H.p4
  have h2 := Holds.unfocus (f := pgE) (y := none) hlen h1
  have h3 : Holds e w (grpB bb B :: all (bkH S.bks) (bs.zipIdx.eraseIdx cl) :: all pgE (E.set n none) :: row v 90 1 E.length ((E.map ptrE).set n (.pointer none)) :: pts b (poolO tb rb v (bs.map ptrV)) :: pts tb tab.obj :: R) := h2.p5.p3
  have h4 := bk_unfocus hbb h3
  refine pool_close (S := ⟨tab, S.pgs.set n none, updB S.bks cl B⟩) (E := E.set n none) (v := v) (bs := bs) (by rw [List.map_set, hE]; rfl) hb ?_
  rw [List.map_set, List.length_set]
  -- books, pages, row, pool, table -> pool, table, row, pages, books
  have h5 := h4.p2.p4.p4
  exact h5.imp fun _ s => Sat.cons (fun _ s => Sat.cons (fun _ s => Sat.cons (fun _ s => Sat.q1 s) s) s) s
set_option maxRecDepth 100000 in
set_option maxHeartbeats 1000000 in
theorem poNote_empty (H : Holds e w (poolH b tb rb S :: ramH rb M :: R)) {n : Nat} {g : PgS} (hn : S.pgs[n]? = some (some g)) (h4 : n ≤ 4095) (hO : PgOk M g) (hu : cnt g.set = 0) :
    Calls Tryz.prog 46 #[.pointer (some ⟨b, 0, none⟩), .int .i64 n] w
      (Ret e (.tuple #[]) (poolH b tb rb ⟨S.tab, S.pgs.set n none, updB S.bks g.cls (bdel (S.bks g.cls) n)⟩ :: ramH rb (M.giveL g.row) :: R)) := by
  have hc := hO.cls
  obtain ⟨p0, o0, c, bs, E, pb, bb, hE, hb, hpb, hbb, HPC, h⟩ := pool_at H hn hc
  have hlen : n < E.length := (List.getElem?_eq_some_iff.1 hpb).1
  have hi0 : (0 : Int) ≤ (g.cls : Int) := by omega
  have hi1 : (g.cls : Int) < 64 := by omega
  have HU : Hid (∀ w' X, Holds e w' (pgH pb g :: X) → Calls Tryz.prog 48 #[.pointer (some ⟨pb, 0, none⟩)] w' (Ret e (.int .i64 0) (pgH pb g :: X))) := Lib.hid fun w' X h => by
    have := retQ (pgUsed h) h
    rw [hu] at this
    exact this
  have HC : Hid (∀ w' X, Holds e w' (pgH pb g :: X) → Calls Tryz.prog 47 #[.pointer (some ⟨pb, 0, none⟩)] w' (Ret e (.int .i64 g.cls) (pgH pb g :: X))) := Lib.hid fun w' X h => retQ (pgClass h) h
  have HDR : Hid (∀ w' X, Holds e w' (pgH pb g :: grpB bb (S.bks g.cls) :: X) → Calls Tryz.prog 80 #[.pointer (some ⟨bb, 0, none⟩), .int .i64 n] w' (Ret e (.bool (S.bks g.cls n).isSome) (pgH pb g :: grpB bb (bdel (S.bks g.cls) n) :: X))) :=
    Lib.hid fun w' X h => (gDrop h.swap h4).mono fun en w'' ⟨h1, h2⟩ => ⟨h1, h2.swap⟩
  have HCL : Hid (∀ w' X0 X1 X2 X3 X4 X5, Holds e w' (pgH pb g :: X0 :: X1 :: X2 :: X3 :: X4 :: X5 :: ramH rb M :: R) → Calls Tryz.prog 81 #[.pointer (some ⟨pb, 0, none⟩), .pointer (some ⟨rb, 0, none⟩)] w' (Ret e (.bool true) (X0 :: X1 :: X2 :: X3 :: X4 :: X5 :: ramH rb (M.giveL g.row) :: R))) :=
    Lib.hid fun w' X0 X1 X2 X3 X4 X5 h => (pgClose (h.p7.swap) hO.len4 hO.nd hO.own0 hu).mono fun en w'' ⟨h1, h2⟩ => ⟨h1, h2.q6⟩
  have HK : Hid (∀ w' X0 X1 X, Holds e w' (X0 :: X1 :: pts b (poolO tb rb (.slice (some ⟨p0, o0, none⟩) E.length c) (bs.map ptrV)) :: X) → w'.cell? ⟨b, 3 + g.cls, none⟩ = some (.pointer (some ⟨bb, 0, none⟩))) :=
    Lib.hid fun w' X0 X1 X h => by rw [h.p2.cells, poolA_hi, List.getElem?_map, hbb]; rfl
  have k1 := HK.out _ _ _ _ h
  have k2 : w.cell? ⟨b, 2, none⟩ = some (.slice (some ⟨p0, o0, none⟩) E.length c) := h.p2.cells 2
  have k3 : w.cell? ⟨p0, o0 + n, none⟩ = some (.pointer (some ⟨pb, 0, none⟩)) := (HPC _ _ h.p3).1
  have HPC := Lib.hid HPC
  have HB := Lib.hid fun (w' : World) (h : Holds e w' (row (.slice (some ⟨p0, o0, none⟩) E.length c) 90 1 E.length ((E.map ptrE).set n (.pointer none)) :: grpB bb (bdel (S.bks g.cls) n) :: pts b (poolO tb rb (.slice (some ⟨p0, o0, none⟩) E.length c) (bs.map ptrV)) :: pts tb S.tab.obj :: all pgE (E.eraseIdx n) :: all (bkH S.bks) (bs.zipIdx.eraseIdx g.cls) :: ramH rb (M.giveL g.row) :: R)) => pool_none (S := S) (tab := S.tab) (n := n) (g := g) hE hb hpb hbb h
  clear hE hb hpb hbb H hu hO
  generalize M.giveL g.row = M' at *
  generalize (S.bks g.cls n).isSome = y at *
  go_enter Tryz.func46, Tryz.ntmps46
  go_wp2_with fail
  refine (HU.out _ _ h).mono ?_
  rintro en w1 ⟨rfl, H1⟩
  have HD := H1.drawn (w1.drawn + 1)
  have k4 := HK.out _ _ _ _ H1
  clear h k1 k2 k3
  go_wp2_with fail
  first | go_region_held3 (fun w' => w'.cell? ⟨b, 3 + g.cls, none⟩ = some (.pointer (some ⟨bb, 0, none⟩)))
    (exact HK.out _ _ _ _ (by assumption))
    (first
      | (go_at_call 47; refine (HC.out _ _ (by assumption)).mono ?_; rintro e w4 ⟨rfl, HN⟩)
      | (go_at_call 80; refine (HDR.out _ _ (by assumption)).mono ?_; rintro e w4 ⟨rfl, HN⟩)) | fail
  all_goals
    have j1 : w4.cell? ⟨b, 1, none⟩ = some (.pointer (some ⟨rb, 0, none⟩)) := HN.p2.cells 1
    clear HK HC HDR HU H1 HD
    go_wp2_with fail
    refine (HCL.out _ _ _ _ _ _ _ HN).mono ?_
    rintro en w5 ⟨rfl, H5⟩
    have j2 : w5.cell? ⟨b, 2, none⟩ = some (.slice (some ⟨p0, o0, none⟩) E.length c) := H5.swap.cells 2
    have j3 : w5.cell? ⟨p0, o0 + n, none⟩ = some (.pointer (some ⟨pb, 0, none⟩)) := (HPC.out _ _ H5.p2).1
    have j4 : w5.frozen? ⟨p0, o0 + n, none⟩ = false := (HPC.out _ _ H5.p2).2
    have H6 := Lib.hid (row.set (i := n) H5.p2 (.pointer none))
    clear HN H5 HCL
    go_wp2_with fail
    go_end0
    exact ⟨rfl, HB.out _ H6.out⟩
end
end Go.Proofs.YtheblkofemobdaaGreat

/-
  Package pool: hole.
-/
namespace Go.Proofs.YtheblkofemobdaaGreat
open Go.RowKit

def holeOf (l : List (Option PgS)) : Nat := l.findIdx (·.isNone)
def roomy (l : List (Option PgS)) : List (Option PgS) := if holeOf l < l.length then l else l ++ [none]
theorem elem_pg : ElemOf Tryz.prog 81 90 1 8 := ElemOf.mk (z := .pointer none) (by kernel_rfl) (by kernel_rfl) rfl (by decide)
theorem hole_le (l : List (Option PgS)) : holeOf l ≤ l.length := List.findIdx_le_length
theorem hole_at {l : List (Option PgS)} {k : Nat} (h0 : ∀ i, i < k → ∃ g, l[i]? = some (some g)) (hk : l[k]? = some none) : holeOf l = k := by
  have hkl := (List.getElem?_eq_some_iff.1 hk)
  unfold holeOf
  rw [List.findIdx_eq hkl.1]
  refine ⟨by rw [hkl.2]; rfl, fun j hj => ?_⟩
  obtain ⟨g, hg⟩ := h0 j hj
  obtain ⟨h1, h2⟩ := List.getElem?_eq_some_iff.1 hg
  rw [h2]; rfl
theorem hole_all {l : List (Option PgS)} (h0 : ∀ i, i < l.length → ∃ g, l[i]? = some (some g)) : holeOf l = l.length := by
  unfold holeOf
  rw [List.findIdx_eq_length]
  intro x hx
  obtain ⟨i, hi⟩ := List.mem_iff_getElem?.1 hx
  obtain ⟨g, hg⟩ := h0 i (List.getElem?_eq_some_iff.1 hi).1
  rw [hi] at hg
  cases hg; rfl
section
variable {e : Env} {w : World} {R A : List HP} {b tb rb : Nat} {S : PoolS} {M : RamS}
set_option maxRecDepth 100000 in
set_option maxHeartbeats 1000000 in
theorem poHole (H : Holds e w (poolH b tb rb S :: R)) (hl : S.pgs.length ≤ 1000) :
    Calls Tryz.prog 71 #[.pointer (some ⟨b, 0, none⟩)] w (Ret e (.int .i64 (holeOf S.pgs)) (poolH b tb rb ⟨S.tab, roomy S.pgs, S.bks⟩ :: R)) := by
  obtain ⟨a, c, bs, E, hE, hb, h⟩ := pool_open H
  have hEl : E.length = S.pgs.length := by rw [← hE, List.length_map]
  have hEl2 : E.length ≤ 1000 := by omega
  have k2 : w.cell? ⟨b, 2, none⟩ = some (.slice a E.length c) := h.cells 2
  have HE := Lib.hid hE
  have HEL := Lib.hid hEl
  have HB := Lib.hid hb
  clear hE hEl hb
  obtain ⟨l, hl0⟩ : ∃ l, E.length = l := ⟨_, rfl⟩
  have HLL := Lib.hid hl0
  have hin := h
  rw [hl0] at hin k2 hEl2
  clear hl0
  go_enter Tryz.func71, Tryz.ntmps71
  go_wp2_with fail
  go_loopw [10] (fun i wr => ∃ k, k ≤ l ∧ i = .int .i64 (k : Nat) ∧ Hid (∀ i, i < k → ∃ g, S.pgs[i]? = some (some g)) ∧ Holds e wr (pts b (poolO tb rb (.slice a l c) (bs.map ptrV)) :: pts tb S.tab.obj :: row (.slice a l c) 90 1 l (E.map ptrE) :: all pgE E :: all (bkH S.bks) bs.zipIdx :: R)) (fun i _ => l - (intOf i).toNat)
  case atStart => exact ⟨0, by omega, rfl, Lib.hid (fun i hi => absurd hi (by omega)), hin⟩
  case round =>
    obtain ⟨k, hk, rfl, HP, HX⟩ := hrel
    clear hin h H k2
    by_cases hlt : k < l
    · obtain ⟨x, hx⟩ : ∃ x, E[k]? = some x := ⟨_, List.getElem?_eq_getElem (by rw [HLL.out]; exact hlt)⟩
      obtain ⟨p0, o0, rfl, hel⟩ := (row.reads HX.p2).at (by omega)
      have q0 := hel k (ptrE x) (by rw [List.getElem?_map, hx]; rfl)
      have hpx : S.pgs[k]? = some (peG x) := by rw [← HE.out, List.getElem?_map, hx]; rfl
      clear hel
      cases x with
      | none =>
        have HH : Hid (holeOf S.pgs = k) := Lib.hid (hole_at HP.out hpx)
        unfold ptrE at q0
        clear hpx hx
        go_wp2_with fail
        go_ret
        refine ⟨by rw [HH.out]; rfl, ?_⟩
        rw [← HLL.out] at HX
        have e1 : roomy S.pgs = S.pgs := by unfold roomy; rw [if_pos (by rw [HH.out, ← HEL.out, HLL.out]; exact hlt)]
        rw [e1]
        exact pool_close (S := S) HE.out HB.out HX
      | some y =>
        have HP2 : Hid (∀ i, i < k + 1 → ∃ g, S.pgs[i]? = some (some g)) := Lib.hid fun i hi => by
          rcases Nat.lt_or_ge i k with h | h
          · exact HP.out i h
          · obtain rfl : i = k := by omega
            exact ⟨y.2, hpx⟩
        have q1 : wr.cell? ⟨p0, o0 + k, none⟩ = some (.pointer (some ⟨y.1, 0, none⟩)) := q0
        clear hpx hx q0
        go_wp2_with fail
        go_roundw
        case rel => exact ⟨k + 1, by omega, by go_num, HP2, HX⟩
        case measure => simp [intOf]; omega
    · obtain rfl : k = l := by omega
      have HH : Hid (holeOf S.pgs = k) := Lib.hid (by rw [← HLL.out, HEL.out]; exact hole_all fun i hi => HP.out i (by rw [← HLL.out, HEL.out]; exact hi))
      have k3 : wr.cell? ⟨b, 2, none⟩ = some (.slice a k c) := HX.cells 2
      have k4 := HX.frozen 2
      go_wp2_with (at_builtin; refine wpList_append_sl rfl _ _ _ rfl 90 1 8 elem_pg (.slice a k c) k (E.map ptrE) rfl ((HX.p2.alloc _).swap) (.slice (some ⟨wr.heap.size, 0, none⟩) 1 1) 1 [.pointer none] rfl (reads_lit1 wr (.pointer none) 90) (fun u hu => by simp at hu; subst hu; rfl) ?_ ?_ ?_)
      · unfold maxLen; omega
      · omega
      intro v' w6 H9
      obtain ⟨a', c', rfl⟩ := row_shape H9
      have H10 := H9.d1.swap
      have hc10 : w6.cell? ⟨b, 2, none⟩ = some (.slice a k c) := H10.cells 2
      have hf10 : w6.frozen? ⟨b, 2, none⟩ = false := H10.frozen 2
      have H11 := H10.set 2 (.slice a' (k + 1) c')
      rw [poolA_set2] at H11
      have hc11 : (w6.setCell ⟨b, 2, none⟩ (.slice a' (k + 1) c')).cell? ⟨b, 2, none⟩ = some (.slice a' (k + 1) c') := H11.cells 2
      have H11 := Lib.hid H11
      clear H9 H10 HX k3 k4
      go_wp2_with fail
      go_ret
      refine ⟨by rw [HH.out]; rfl, ?_⟩
      have e1 : roomy S.pgs = S.pgs ++ [none] := by unfold roomy; rw [if_neg (by rw [HH.out, ← HEL.out, HLL.out]; omega)]
      rw [e1]
      refine pool_close (S := ⟨S.tab, S.pgs ++ [none], S.bks⟩) (E := E ++ [none]) (v := .slice a' (k + 1) c') (bs := bs) (by rw [List.map_append, HE.out]; rfl) HB.out ?_
      rw [List.length_append, HLL.out, List.map_append]
      have h1 := H11.out.p3
      have h2 : Holds e _ (pgE none :: all pgE E :: _) := Holds.mkPur trivial h1
      have h3 := Holds.allSnoc (f := pgE) (x := none) h2
      exact h3.p3.p2.imp fun _ s => Sat.cons (fun _ s => Sat.cons (fun _ s => Sat.q1 s) s) s
end
end Go.Proofs.YtheblkofemobdaaGreat

/-
  Package pool: room.
-/
namespace Go.Proofs.YtheblkofemobdaaGreat
open Go.RowKit

section
variable {e : Env} {w : World} {R A : List HP} {b tb rb : Nat} {S : PoolS} {M : RamS}
/-- A class's book in hand. -/
theorem pool_book (H : Holds e w (poolH b tb rb S :: R)) {cl : Nat} (hc : cl < 64) :
    ∃ (bb : Nat), w.cell? ⟨b, 3 + cl, none⟩ = some (.pointer (some ⟨bb, 0, none⟩)) ∧ w.cell? ⟨b, 1, none⟩ = some (.pointer (some ⟨rb, 0, none⟩)) ∧ ∃ (X : HP), Holds e w (grpB bb (S.bks cl) :: X :: R) ∧ ∀ w' B, Holds e w' (grpB bb B :: X :: R) → Holds e w' (poolH b tb rb ⟨S.tab, S.pgs, updB S.bks cl B⟩ :: R) := by
  obtain ⟨a, c, bs, E, hE, hb, h⟩ := pool_open H
  obtain ⟨bb, hbb⟩ : ∃ bb, bs[cl]? = some bb := ⟨_, List.getElem?_eq_getElem (by omega)⟩
  refine ⟨bb, by rw [h.cells, poolA_hi, List.getElem?_map, hbb]; rfl, h.cells 1, grp [pts b (poolO tb rb (.slice a E.length c) (bs.map ptrV)), pts tb S.tab.obj, row (.slice a E.length c) 90 1 E.length (E.map ptrE), all pgE E, all (bkH S.bks) (bs.zipIdx.eraseIdx cl)], ?_, fun w' B h' => ?_⟩
  · have h2 := bk_focus hbb h.p4
    -- book, books, pool, table, row, pages
    have h3 := h2.cons fun _ => Sat.q4
    exact h3.cons fun _ s => Sat.append.1 s
  · have h2 : Holds e w' (grpB bb B :: pts b (poolO tb rb (.slice a E.length c) (bs.map ptrV)) :: pts tb S.tab.obj :: row (.slice a E.length c) 90 1 E.length (E.map ptrE) :: all pgE E :: all (bkH S.bks) (bs.zipIdx.eraseIdx cl) :: R) := h'.cons fun _ s => Sat.append.2 s
    have h3 := bk_unfocus hbb h2.p5.swap
    exact pool_close (S := ⟨S.tab, S.pgs, updB S.bks cl B⟩) hE hb h3.q4
theorem poolS_self (S : PoolS) (cl : Nat) : (⟨S.tab, S.pgs, updB S.bks cl (S.bks cl)⟩ : PoolS) = S := by rw [updB_self]
set_option maxRecDepth 100000 in
theorem poRoom_old (H : Holds e w (poolH b tb rb S :: R)) {cl n : Nat} (hc : cl < 64) (hok : BkOk (S.bks cl)) (hbest : bestB (S.bks cl) [] = some n) :
    Calls Tryz.prog 41 #[.pointer (some ⟨b, 0, none⟩), .int .i64 cl] w (Ret e (.tuple #[.int .i64 n, .int .i64 0]) (poolH b tb rb S :: R)) := by
  obtain ⟨bb, k1, k2, X, h, hback⟩ := pool_book H hc
  have hi0 : (0 : Int) ≤ (cl : Int) := by omega
  have hi1 : (cl : Int) < 64 := by omega
  have HBK := Lib.hid fun (w' : World) (h' : Holds e w' (grpB bb (S.bks cl) :: row (.slice none 0 0) 3 1 ([] : List Int).length (ints []) :: X :: R)) => by
    have := hback w' _ (h'.cons fun _ => Sat.drop)
    rwa [poolS_self] at this
  have CB := gBest (vb := .slice none 0 0) (bs := []) (row.nil 3 1 h).swap (by simp) hok
  rw [hbest] at CB
  have CB := Lib.hid CB
  clear H h hback hok hbest
  go_enter Tryz.func41, Tryz.ntmps41
  go_wp2_with fail
  refine CB.out.mono ?_
  rintro en w1 ⟨rfl, H1⟩
  have H2 := HBK.out _ H1
  clear CB H1 HBK
  go_wp2_with fail
  go_ret2
  exact ⟨rfl, H2⟩

set_option maxRecDepth 100000 in
theorem poRoom_no (H : Holds e w (poolH b tb rb S :: ramH rb M :: R)) {cl : Nat} (hc : cl < 64) (hok : BkOk (S.bks cl)) (hbest : bestB (S.bks cl) [] = none) (hlt : M.fr.free.length < cFrames cl) :
    Calls Tryz.prog 41 #[.pointer (some ⟨b, 0, none⟩), .int .i64 cl] w (Ret e (.tuple #[.int .i64 0, .int .i64 11]) (poolH b tb rb S :: ramH rb M :: R)) := by
  obtain ⟨bb, k1, k2, X, h, hback⟩ := pool_book H hc
  have hi0 : (0 : Int) ≤ (cl : Int) := by omega
  have hi1 : (cl : Int) < 64 := by omega
  have HBK := Lib.hid fun (w' : World) (h' : Holds e w' (grpB bb (S.bks cl) :: row (.slice none 0 0) 3 1 ([] : List Int).length (ints []) :: X :: ramH rb M :: R)) => by
    have := hback w' _ (h'.cons fun _ => Sat.drop)
    rwa [poolS_self] at this
  have CB := gBest (vb := .slice none 0 0) (bs := []) (row.nil 3 1 h).swap (by simp) hok
  rw [hbest] at CB
  have CB := Lib.hid CB
  have HMK : Hid (∀ w', Holds e w' (poolH b tb rb S :: ramH rb M :: R) → Calls Tryz.prog 70 #[.pointer (some ⟨rb, 0, none⟩), .int .i64 cl] w' (Ret e (.tuple #[.pointer none, .int .i64 11]) (poolH b tb rb S :: ramH rb M :: R))) :=
    Lib.hid fun w' h' => (pgMake_no h'.swap hc hlt).mono fun en w'' ⟨h1, h2⟩ => ⟨h1, h2.swap⟩
  have HK1 : Hid (∀ w', Holds e w' (poolH b tb rb S :: ramH rb M :: R) → w'.cell? ⟨b, 1, none⟩ = some (.pointer (some ⟨rb, 0, none⟩))) := Lib.hid fun w' h' => by
    obtain ⟨_, _, k, _⟩ := pool_book h' (cl := 0) (by omega)
    exact k
  clear H h hback hok hbest hlt
  go_enter Tryz.func41, Tryz.ntmps41
  go_wp2_with fail
  refine CB.out.mono ?_
  rintro en w1 ⟨rfl, H1⟩
  have H2 := HBK.out _ H1
  have k3 := HK1.out _ H2
  clear CB H1 HBK k1 k2
  go_wp2_with fail
  refine (HMK.out _ H2).mono ?_
  rintro en w2 ⟨rfl, H3⟩
  clear H2 k3
  go_wp2_with fail
  go_ret2
  exact ⟨rfl, H3⟩
/-- A page laid at a place that is empty. -/
theorem pool_lay {pb : Nat} {g : PgS} (H : Holds e w (poolH b tb rb S :: pgH pb g :: R)) {n : Nat} (hn : S.pgs[n]? = some none) : ∃ (p0 o0 c l : Nat), n < l ∧ l = S.pgs.length ∧ w.cell? ⟨b, 2, none⟩ = some (.slice (some ⟨p0, o0, none⟩) l c) ∧ w.cell? ⟨p0, o0 + n, none⟩ = some (.pointer none) ∧ w.frozen? ⟨p0, o0 + n, none⟩ = false ∧
    Holds e (w.setCell ⟨p0, o0 + n, none⟩ (ptrV pb)) (poolH b tb rb ⟨S.tab, S.pgs.set n (some g), S.bks⟩ :: R) := by
  obtain ⟨a, c, bs, E, hE, hb, h⟩ := pool_open H
  have hpb : E[n]? = some none := by
    rw [← hE, List.getElem?_map] at hn
    cases hx : E[n]? with
    | none => rw [hx] at hn; cases hn
    | some x =>
      rw [hx] at hn
      cases x with
      | none => rfl
      | some y => cases hn
  have hlen : n < E.length := (List.getElem?_eq_some_iff.1 hpb).1
  obtain ⟨p0, o0, rfl, hel⟩ := (row.reads h.p2).at (by omega)
  refine ⟨p0, o0, c, E.length, hlen, by rw [← hE, List.length_map], h.cells 2, hel n _ (by rw [List.getElem?_map, hpb]; rfl), ?_, ?_⟩
  · rcases (row.open h.p2).2 with ⟨h0, _⟩ | ⟨g1, cap, cur, h0, _, _, _, _, h5⟩
    · cases h0
    · cases h0; exact h5.frozen _
  · have h1 := row.set (i := n) h.p2 (ptrV pb)
    have e1 : (E.map ptrE).set n (ptrV pb) = (E.set n (some (pb, g))).map ptrE := by rw [List.map_set]; rfl
    rw [e1] at h1
    -- row, pool, table, pages, books, page
    have h2 := Holds.focus (f := pgE) hpb h1.p3
    have h3 : Holds e _ (pgE none :: all pgE (E.eraseIdx n) :: row _ _ _ _ _ :: pts _ _ :: pts _ _ :: all _ _ :: pgH pb g :: R) := h2
    have h4 := h3.drop.p5
    have h5 := Holds.unfocus (f := pgE) (y := some (pb, g)) hlen h4
    refine pool_close (S := ⟨S.tab, S.pgs.set n (some g), S.bks⟩) (E := E.set n (some (pb, g))) (v := .slice (some ⟨p0, o0, none⟩) E.length c) (bs := bs) (by rw [List.map_set, hE]; rfl) hb ?_
    rw [List.length_set]
    -- pages, row, pool, table, books -> pool, table, row, pages, books
    exact h5.p2.swap.p3.swap.q3.swap

theorem roomy_hole (l : List (Option PgS)) : (roomy l)[holeOf l]? = some none ∧ (roomy l).length ≤ l.length + 1 := by
  unfold roomy
  have hle := hole_le l
  split
  · next h =>
    refine ⟨?_, by omega⟩
    have h1 := List.findIdx_getElem (p := fun x : Option PgS => x.isNone) (xs := l) (w := h)
    rw [List.getElem?_eq_getElem h]
    unfold holeOf at h ⊢
    cases hx : l[List.findIdx (fun x => x.isNone) l] with
    | none => rfl
    | some y => rw [hx] at h1; cases h1
  · next h =>
    have : holeOf l = l.length := by omega
    rw [this]
    simp
set_option maxRecDepth 100000 in
set_option maxHeartbeats 400000 in
theorem poRoom_new (H : Holds e w (poolH b tb rb S :: ramH rb M :: R)) {cl : Nat} (hc : cl < 64) (hok : BkOk (S.bks cl)) (hbest : bestB (S.bks cl) [] = none) (hlt : cFrames cl ≤ M.fr.free.length) (hl : S.pgs.length ≤ 1000) :
    Calls Tryz.prog 41 #[.pointer (some ⟨b, 0, none⟩), .int .i64 cl] w
      (Ret e (.tuple #[.int .i64 (holeOf S.pgs), .int .i64 0]) (poolH b tb rb ⟨S.tab, (roomy S.pgs).set (holeOf S.pgs) (some (mkPg M cl).2), S.bks⟩ :: ramH rb (mkPg M cl).1 :: R)) := by
  obtain ⟨bb, k1, k2, X, h, hback⟩ := pool_book H hc
  have hi0 : (0 : Int) ≤ (cl : Int) := by omega
  have hi1 : (cl : Int) < 64 := by omega
  have HBK := Lib.hid fun (w' : World) (h' : Holds e w' (grpB bb (S.bks cl) :: row (.slice none 0 0) 3 1 ([] : List Int).length (ints []) :: X :: ramH rb M :: R)) => by
    have := hback w' _ (h'.cons fun _ => Sat.drop)
    rwa [poolS_self] at this
  have CB := gBest (vb := .slice none 0 0) (bs := []) (row.nil 3 1 h).swap (by simp) hok
  rw [hbest] at CB
  have CB := Lib.hid CB
  have HMK : Hid (∀ w', Holds e w' (poolH b tb rb S :: ramH rb M :: R) → Calls Tryz.prog 70 #[.pointer (some ⟨rb, 0, none⟩), .int .i64 cl] w' (RetEx e (fun px : Nat => .tuple #[.pointer (some ⟨px, 0, none⟩), .int .i64 0]) (fun px => poolH b tb rb S :: pgH px (mkPg M cl).2 :: ramH rb (mkPg M cl).1 :: R))) :=
    Lib.hid fun w' h' => (pgMake_yes h'.swap hc hlt).mono fun en w'' ⟨px, h1, h2⟩ => ⟨px, h1, h2.p2⟩
  have HK1 : Hid (∀ w', Holds e w' (poolH b tb rb S :: ramH rb M :: R) → w'.cell? ⟨b, 1, none⟩ = some (.pointer (some ⟨rb, 0, none⟩))) := Lib.hid fun w' h' => by
    obtain ⟨_, _, k, _⟩ := pool_book h' (cl := 0) (by omega)
    exact k
  have HHO : Hid (∀ w' X, Holds e w' (poolH b tb rb S :: X) → Calls Tryz.prog 71 #[.pointer (some ⟨b, 0, none⟩)] w' (Ret e (.int .i64 (holeOf S.pgs)) (poolH b tb rb ⟨S.tab, roomy S.pgs, S.bks⟩ :: X))) := Lib.hid fun w' X h' => poHole h' hl
  have hrh := roomy_hole S.pgs
  have hhl : holeOf S.pgs ≤ 1001 := by have := hole_le S.pgs; omega
  have HRH := Lib.hid hrh
  clear H h hback hok hbest hlt hrh
  generalize hmk : mkPg M cl = mk at *
  obtain ⟨M', g⟩ := mk
  dsimp only at *
  clear hmk
  obtain ⟨ho, hho⟩ : ∃ ho, holeOf S.pgs = ho := ⟨_, rfl⟩
  rw [hho] at HHO HRH hhl ⊢
  clear hho
  obtain ⟨ry, hry⟩ : ∃ ry, roomy S.pgs = ry := ⟨_, rfl⟩
  rw [hry] at HHO HRH ⊢
  clear hry
  go_enter Tryz.func41, Tryz.ntmps41
  go_wp2_with fail
  refine CB.out.mono ?_
  rintro en w1 ⟨rfl, H1⟩
  have H2 := HBK.out _ H1
  have k3 := HK1.out _ H2
  clear CB H1 HBK k1 k2
  go_wp2_with fail
  refine (HMK.out _ H2).mono ?_
  rintro en w2 ⟨px, rfl, H3⟩
  clear H2 k3
  go_wp2_with fail
  refine (HHO.out _ _ H3).mono ?_
  rintro en w3 ⟨rfl, H4⟩
  obtain ⟨p0, o0, c, l, hil, hll, j1, j2, j3, H5⟩ := pool_lay H4 HRH.out.1
  have hl2 : l ≤ 1001 := by rw [hll]; have := HRH.out.2; dsimp only; omega
  have H5 := Lib.hid H5
  clear H3 H4 HHO hll
  go_wp2_with fail
  go_ret2
  exact ⟨rfl, H5.out⟩
end
end Go.Proofs.YtheblkofemobdaaGreat

/-
  Package pool: put.
-/
namespace Go.Proofs.YtheblkofemobdaaGreat
open Go.RowKit

/-- What put does to a zspage: the RAM, the zspage. k: the object, the first free one. -/
def putPg (M : RamS) (g : PgS) (k : Nat) (d : List UInt8) : RamS × PgS :=
  ((M.tk (csz g.cls * k + 0) 2).wr g.row (csz g.cls * k + 0) d, { g with set := g.set.set k true, first := unle (obj M g k 2) })
section
variable {e : Env} {w : World} {R A : List HP} {b tb rb : Nat} {S : PoolS} {M : RamS}
set_option maxRecDepth 100000 in
set_option maxHeartbeats 1000000 in
theorem poPut (H : Holds e w (poolH b tb rb S :: ramH rb M :: R)) {n k : Nat} {g : PgS} {L : List Nat} (hn : S.pgs[n]? = some (some g)) (h4 : n ≤ 4095) (hI : PgInv M g (k :: L)) (vd : Value) (d : List UInt8) (hd : ∀ w', Holds e w' R → RdB w' vd d) (hm : d.length ≤ csz g.cls) :
    Calls Tryz.prog 43 #[.pointer (some ⟨b, 0, none⟩), .int .i64 n, vd] w
      (Ret e (PlaceS.val ⟨n, k, d.length⟩) (poolH b tb rb ⟨S.tab, S.pgs.set n (some (putPg M g k d).2), updB S.bks g.cls (bput (S.bks g.cls) n (cnt (putPg M g k d).2.set, (putPg M g k d).2.set.length))⟩ :: ramH rb (putPg M g k d).1 :: R)) := by
  have hc := hI.ok.cls
  obtain ⟨hf, hk, hx⟩ := hI.takeHead
  have hs := hI.ok.set256
  have hI2 := hI.take (csz g.cls * k + 0) 2 hI.next
  have hM2 : d.length ≤ csz g.cls := hm
  obtain ⟨va, vc, rfl⟩ := (hd _ H.drop.drop).shape
  have hcn := cnt_set hk true
  rw [hx, if_neg (by decide), if_pos rfl] at hcn
  have hdl : d.length ≤ 4096 := by unfold csz at hm; omega
  have H1 := H.alloc (.cells #[.int .i64 0, .int .i64 0, .int .i64 0] 51)
  obtain ⟨bx, hbx⟩ : ∃ bx, w.heap.size = bx := ⟨_, rfl⟩
  rw [hbx] at H1
  have H2 := H1.q2
  obtain ⟨p0, o0, c, bs, E, pb, bb, hE, hb, hpb, hbb, HPC, h⟩ := pool_at H2 hn hc
  have hlen : n < E.length := (List.getElem?_eq_some_iff.1 hpb).1
  have HT : Hid (∀ w' X0 X1 X2 X3 X4 X5 Y, Holds e w' (pgH pb g :: X0 :: X1 :: X2 :: X3 :: X4 :: X5 :: ramH rb M :: Y) → Calls Tryz.prog 74 #[.pointer (some ⟨pb, 0, none⟩), .pointer (some ⟨rb, 0, none⟩)] w'
      (Ret e (.tuple #[.int .i64 k, .bool true]) (pgH pb (putPg M g k d).2 :: X0 :: X1 :: X2 :: X3 :: X4 :: X5 :: ramH rb (M.tk (csz g.cls * k + 0) 2) :: Y))) :=
    Lib.hid fun w' X0 X1 X2 X3 X4 X5 Y h' => (pgTake_yes h'.p7.swap hI.ok hf hk hx).mono fun en w'' ⟨h1, h2⟩ => ⟨h1, h2.swap.q7⟩
  have HW : Hid (∀ w' X0 X1 X2 X3 X4 X5, Holds e w' (pgH pb (putPg M g k d).2 :: X0 :: X1 :: X2 :: X3 :: X4 :: X5 :: ramH rb (M.tk (csz g.cls * k + 0) 2) :: pts bx (.cells #[.int .i64 0, .int .i64 0, .int .i64 0] 51 (0, 0)) :: R) → Calls Tryz.prog 75 #[.pointer (some ⟨pb, 0, none⟩), .pointer (some ⟨rb, 0, none⟩), .int .i64 k, .slice va d.length vc] w'
      (Ret e (.bool true) (pgH pb (putPg M g k d).2 :: X0 :: X1 :: X2 :: X3 :: X4 :: X5 :: ramH rb (putPg M g k d).1 :: pts bx (.cells #[.int .i64 0, .int .i64 0, .int .i64 0] 51 (0, 0)) :: R))) :=
    Lib.hid fun w' X0 X1 X2 X3 X4 X5 h' => (pgWrite_yes (g := (putPg M g k d).2) h'.p7.swap hI2.ok (n := k) (by unfold putPg; simpa using hk) (by unfold putPg; dsimp only; rw [getD_set hk, if_pos rfl]) _ d (fun w'' h'' => hd _ h''.drop.drop.drop.drop.drop.drop.drop) hM2).mono fun en w'' ⟨h1, h2⟩ => ⟨h1, h2.swap.q7⟩
  have HB := Lib.hid fun (w' : World) (g' : PgS) (Y : List HP) (h : Holds e w' (pgH pb g' :: grpB bb (S.bks g.cls) :: pts b (poolO tb rb (.slice (some ⟨p0, o0, none⟩) E.length c) (bs.map ptrV)) :: row (.slice (some ⟨p0, o0, none⟩) E.length c) 90 1 E.length (E.map ptrE) :: pts tb S.tab.obj :: all pgE (E.eraseIdx n) :: all (bkH S.bks) (bs.zipIdx.eraseIdx g.cls) :: Y)) => pool_back (S := S) (tab := S.tab) (n := n) (g := g) hE hb hpb hbb h
  rw [updB_self] at HB
  have HNT : Hid (∀ w' Y, Holds e w' (poolH b tb rb ⟨S.tab, S.pgs.set n (some (putPg M g k d).2), S.bks⟩ :: Y) → Calls Tryz.prog 46 #[.pointer (some ⟨b, 0, none⟩), .int .i64 n] w' (Ret e (.tuple #[]) (poolH b tb rb ⟨S.tab, S.pgs.set n (some (putPg M g k d).2), updB S.bks g.cls (bput (S.bks g.cls) n (cnt (putPg M g k d).2.set, (putPg M g k d).2.set.length))⟩ :: Y))) :=
    Lib.hid fun w' Y h' => poNote_used (g := (putPg M g k d).2) h' (by dsimp only; rw [List.getElem?_set, if_pos rfl, if_pos (List.getElem?_eq_some_iff.1 hn).1]) h4 hc (by unfold putPg; dsimp only; omega)
  have HPC := Lib.hid HPC
  have k2 : (w.alloc (.cells #[.int .i64 0, .int .i64 0, .int .i64 0] 51)).cell? ⟨b, 2, none⟩ = some (.slice (some ⟨p0, o0, none⟩) E.length c) := h.p2.cells 2
  have k1 : (w.alloc (.cells #[.int .i64 0, .int .i64 0, .int .i64 0] 51)).cell? ⟨b, 1, none⟩ = some (.pointer (some ⟨rb, 0, none⟩)) := h.p2.cells 1
  have k3 : (w.alloc (.cells #[.int .i64 0, .int .i64 0, .int .i64 0] 51)).cell? ⟨p0, o0 + n, none⟩ = some (.pointer (some ⟨pb, 0, none⟩)) := (HPC.out _ _ h.p3).1
  clear H H1 H2 hE hb hpb hbb hI hI2 hd hn hcn hx hM2 hm hf
  generalize putPg M g k d = P at *
  obtain ⟨M', g'⟩ := P
  dsimp only at *
  generalize M.tk (csz g.cls * k + 0) 2 = M1 at *
  go_enter Tryz.func43, Tryz.ntmps43
  go_wp2_with fail
  refine (HT.out _ _ _ _ _ _ _ _ h).mono ?_
  rintro en w1 ⟨rfl, H3⟩
  have k4 : w1.cell? ⟨b, 1, none⟩ = some (.pointer (some ⟨rb, 0, none⟩)) := H3.p2.cells 1
  clear h k1 k2 k3 HT HPC
  go_wp2_with fail
  refine (HW.out _ _ _ _ _ _ _ H3).mono ?_
  rintro en w2 ⟨rfl, H4⟩
  have H5 := HB.out _ _ _ H4
  clear H3 k4 HW H4 HB
  go_wp2_with fail
  refine (HNT.out _ _ H5).mono ?_
  rintro en w3 ⟨rfl, H6⟩
  have H7 := H6.p2
  have hc7 := H7.cells
  have hf7 := H7.frozen
  clear H5 HNT H6
  rw [hbx] at *
  go_wp2_with fail
  refine bodyPost_at (((H7.set 0 _).set 1 _).set 2 _) fun w9 H9 => ?_
  have hc9 := H9.cells
  exact bodyPost_ret (v := PlaceS.val ⟨n, k, d.length⟩) (by simp [results, Tryz.results43, go_sem, PlaceS.val, hc9]) rfl ⟨rfl, H9.drop⟩
end
end Go.Proofs.YtheblkofemobdaaGreat

/-
  Package pool: the table in hand; Alloc.
-/
namespace Go.Proofs.YtheblkofemobdaaGreat
open Go.RowKit

section
variable {e : Env} {w : World} {R A : List HP} {b tb rb : Nat} {S : PoolS} {M : RamS}
theorem pool_tab (H : Holds e w (poolH b tb rb S :: R)) : w.cell? ⟨b, 0, none⟩ = some (.pointer (some ⟨tb, 0, none⟩)) ∧ w.cell? ⟨b, 1, none⟩ = some (.pointer (some ⟨rb, 0, none⟩)) ∧
    ∃ X : HP, Holds e w (pts tb S.tab.obj :: X :: R) ∧ ∀ w' tab, Holds e w' (pts tb (TabS.obj tab) :: X :: R) → Holds e w' (poolH b tb rb ⟨tab, S.pgs, S.bks⟩ :: R) := by
  obtain ⟨a, c, bs, E, hE, hb, h⟩ := pool_open H
  refine ⟨h.cells 0, h.cells 1, grp [pts b (poolO tb rb (.slice a E.length c) (bs.map ptrV)), row (.slice a E.length c) 90 1 E.length (E.map ptrE), all pgE E, all (bkH S.bks) bs.zipIdx], ?_, fun w' tab h' => ?_⟩
  · exact h.swap.cons fun _ s => Sat.append.1 s
  · have h2 : Holds e w' (pts tb (TabS.obj tab) :: pts b (poolO tb rb (.slice a E.length c) (bs.map ptrV)) :: row (.slice a E.length c) 90 1 E.length (E.map ptrE) :: all pgE E :: all (bkH S.bks) bs.zipIdx :: R) := h'.cons fun _ s => Sat.append.2 s
    exact pool_close (S := ⟨tab, S.pgs, S.bks⟩) hE hb h2.swap
theorem poLen (H : Holds e w (poolH b tb rb S :: R)) : Calls Tryz.prog 22 #[.pointer (some ⟨b, 0, none⟩)] w (Quiet w (.int .i64 S.tab.many)) := by
  obtain ⟨k0, _, X, h, _⟩ := pool_tab H
  have cl := hlen_ok h
  clear h H
  go_enter Tryz.func22, Tryz.ntmps22
  go_wp2_with fail
  refine cl.mono ?_
  rintro en w1 ⟨rfl, n1, rfl⟩
  go_wp2_with fail
  go_ret
  exact ⟨rfl, _, rfl⟩
theorem poLen_nil : Calls Tryz.prog 22 #[.pointer none] w (Quiet w (.int .i64 0)) := by
  go_enter Tryz.func22, Tryz.ntmps22
  go_wp2
  go_ret
  exact ⟨rfl, 0, rfl⟩
theorem poAlloc_bad (a : Option Addr) (n c : Nat) (hn : n < 1 ∨ 4096 < n) (hb : n ≤ 1000000000) (pv : Option Addr) : Calls Tryz.prog 11 #[.pointer pv, .slice a n c] w (Quiet w (.tuple #[.int .i64 0, .int .i64 1])) := by
  have co := clsOf_no (w := w) (n : Int) (by omega)
  go_enter Tryz.func11, Tryz.ntmps11
  go_wp2_with fail
  refine co.mono ?_
  rintro en w1 ⟨rfl, n1, rfl⟩
  go_wp2_with fail
  go_ret2
  exact ⟨rfl, _, rfl⟩
theorem poAlloc_nil (a : Option Addr) (n c : Nat) (h1 : 1 ≤ n) (h2 : n ≤ 4096) : Calls Tryz.prog 11 #[.pointer none, .slice a n c] w (Quiet w (.tuple #[.int .i64 0, .int .i64 11])) := by
  have co := clsOf_yes (w := w) n h1 h2
  go_enter Tryz.func11, Tryz.ntmps11
  go_wp2_with fail
  refine co.mono ?_
  rintro en w1 ⟨rfl, n1, rfl⟩
  go_wp2_with fail
  go_ret2
  exact ⟨rfl, _, rfl⟩
theorem poAlloc_full (H : Holds e w (poolH b tb rb S :: R)) (a : Option Addr) (n c : Nat) (h1 : 1 ≤ n) (h2 : n ≤ 4096) (hf : 512 ≤ S.tab.many) : Calls Tryz.prog 11 #[.pointer (some ⟨b, 0, none⟩), .slice a n c] w (Quiet w (.tuple #[.int .i64 0, .int .i64 11])) := by
  have co := clsOf_yes (w := w) n h1 h2
  have CL := fun k => poLen (H.drewN k)
  generalize S.tab.many = y at *
  go_enter Tryz.func11, Tryz.ntmps11
  go_wp2_with fail
  refine co.mono ?_
  rintro en w1 ⟨rfl, n1, rfl⟩
  have cl := CL n1
  go_wp2_with fail
  refine cl.mono ?_
  rintro en w2 ⟨rfl, n2, rfl⟩
  go_wp2_with fail
  go_ret2
  exact ⟨rfl, _, rfl⟩

set_option maxRecDepth 100000 in
set_option maxHeartbeats 1000000 in
theorem poAlloc_no (H : Holds e w (poolH b tb rb S :: ramH rb M :: R)) (a : Option Addr) (n c : Nat) (h1 : 1 ≤ n) (h2 : n ≤ 4096) (hf : S.tab.many < 512) (hok : BkOk (S.bks ((n - 1) / 64))) (hbest : bestB (S.bks ((n - 1) / 64)) [] = none) (hlt : M.fr.free.length < cFrames ((n - 1) / 64)) :
    Calls Tryz.prog 11 #[.pointer (some ⟨b, 0, none⟩), .slice a n c] w (Ret e (.tuple #[.int .i64 0, .int .i64 11]) (poolH b tb rb S :: ramH rb M :: R)) := by
  have co := clsOf_yes (w := w) n h1 h2
  have CL := fun k => poLen (H.drewN k)
  have CR := Lib.hid fun (w' : World) (h : Holds e w' (poolH b tb rb S :: ramH rb M :: R)) => poRoom_no h (show (n - 1) / 64 < 64 by omega) hok hbest hlt
  clear hok hbest hlt
  generalize (n - 1) / 64 = cl at *
  generalize S.tab.many = y at *
  go_enter Tryz.func11, Tryz.ntmps11
  go_wp2_with fail
  refine co.mono ?_
  rintro en w1 ⟨rfl, n1, rfl⟩
  have cl1 := CL n1
  go_wp2_with fail
  refine cl1.mono ?_
  rintro en w2 ⟨rfl, n2, hw2⟩
  have H2 : Holds e w2 _ := hw2 ▸ (H.drewN n1).drewN n2
  clear hw2 H CL co cl1
  go_wp2_with fail
  refine (CR.out _ H2).mono ?_
  rintro en w3 ⟨rfl, H3⟩
  clear H2 CR
  go_wp2_with fail
  go_ret2
  exact ⟨rfl, H3⟩
set_option maxRecDepth 100000 in
set_option maxHeartbeats 1000000 in
/-- Alloc, behind a room that was found or made. -/
theorem poAlloc_in (H : Holds e w (poolH b tb rb S :: ramH rb M :: R)) (vd : Value) (d : List UInt8) (hd : ∀ w', Holds e w' R → RdB w' vd d) (h1 : 1 ≤ d.length) (h2 : d.length ≤ 4096) (hf : S.tab.many < 512) (hm0 : 0 ≤ S.tab.many) {S1 : PoolS} {M1 : RamS} {n k : Nat} {g : PgS} {L : List Nat}
    (hroom : ∀ w', Holds e w' (poolH b tb rb S :: ramH rb M :: R) → Calls Tryz.prog 41 #[.pointer (some ⟨b, 0, none⟩), .int .i64 (((d.length - 1) / 64 : Nat) : Int)] w' (Ret e (.tuple #[.int .i64 n, .int .i64 0]) (poolH b tb rb S1 :: ramH rb M1 :: R)))
    (ht : S1.tab = S.tab) (hn : S1.pgs[n]? = some (some g)) (h4 : n ≤ 4095) (hI : PgInv M1 g (k :: L)) (hg : g.cls = (d.length - 1) / 64) :
    Calls Tryz.prog 11 #[.pointer (some ⟨b, 0, none⟩), vd] w
      (Ret e (.tuple #[.int .i64 (S.tab.make ⟨n, k, d.length⟩).1.1, .int .i64 (S.tab.make ⟨n, k, d.length⟩).1.2]) (poolH b tb rb ⟨(S.tab.make ⟨n, k, d.length⟩).2, S1.pgs.set n (some (putPg M1 g k d).2), updB S1.bks g.cls (bput (S1.bks g.cls) n (cnt (putPg M1 g k d).2.set, (putPg M1 g k d).2.set.length))⟩ :: ramH rb (putPg M1 g k d).1 :: R)) := by
  have co := clsOf_yes (w := w) d.length h1 h2
  have CL := fun k => poLen (H.drewN k)
  have HPT : Hid (∀ w', Holds e w' (poolH b tb rb S1 :: ramH rb M1 :: R) → _) := Lib.hid fun w' h' => poPut h' hn h4 hI vd d hd (by rw [hg]; unfold csz; omega)
  obtain ⟨va, vc, rfl⟩ := (hd _ H.drop.drop).shape
  have HMK : Hid (∀ w' P B X, Holds e w' (poolH b tb rb ⟨S1.tab, P, B⟩ :: X) → Calls Tryz.prog 42 #[.pointer (some ⟨tb, 0, none⟩), PlaceS.val ⟨n, k, d.length⟩] w' (Ret e (.tuple #[.int .i64 (S.tab.make ⟨n, k, d.length⟩).1.1, .int .i64 (S.tab.make ⟨n, k, d.length⟩).1.2]) (poolH b tb rb ⟨(S.tab.make ⟨n, k, d.length⟩).2, P, B⟩ :: X))) :=
    Lib.hid fun w' P B X h' => by
      obtain ⟨_, _, Y, h5, h6⟩ := pool_tab h'
      have := hmake h5 ⟨n, k, d.length⟩ (by rw [ht]; exact hm0) (by rw [ht]; omega)
      dsimp only at this
      rw [ht] at this
      exact this.mono fun en w'' ⟨r1, r2⟩ => ⟨r1, h6 _ _ r2⟩
  have HK : Hid (∀ w' S' X, Holds e w' (poolH b tb rb S' :: X) → w'.cell? ⟨b, 0, none⟩ = some (.pointer (some ⟨tb, 0, none⟩))) := Lib.hid fun w' S' X h' => (pool_tab h').1
  have HRM := Lib.hid hroom
  clear hroom hn h4 hI hg hd ht
  generalize hmk : S.tab.make ⟨n, k, d.length⟩ = mk at *
  obtain ⟨⟨mh, me⟩, mt⟩ := mk
  dsimp only at *
  generalize hP : putPg M1 g k d = P at *
  obtain ⟨M', g'⟩ := P
  dsimp only at *
  clear hmk hP
  generalize (d.length - 1) / 64 = cl at *
  generalize d.length = dl at *
  generalize S.tab.many = y at *
  unfold PlaceS.val at HPT HMK
  go_enter Tryz.func11, Tryz.ntmps11
  go_wp2_with fail
  refine co.mono ?_
  rintro en w1 ⟨rfl, n1, rfl⟩
  have cl1 := CL n1
  go_wp2_with fail
  refine cl1.mono ?_
  rintro en w2 ⟨rfl, n2, hw2⟩
  have H2 : Holds e w2 _ := hw2 ▸ (H.drewN n1).drewN n2
  clear hw2 H CL co cl1
  go_wp2_with fail
  refine (HRM.out _ H2).mono ?_
  rintro en w3 ⟨rfl, H3⟩
  have hk0 := HK.out _ _ _ H3
  have HD := H3.drawn (w3.drawn + 1)
  clear H2 HRM
  go_wp2_with fail
  first | go_region_held3 (fun w' => w'.cell? ⟨b, 0, none⟩ = some (.pointer (some ⟨tb, 0, none⟩)))
    (exact HK.out _ _ _ (by assumption))
    (first
      | (go_at_call 43; refine (HPT.out _ (by assumption)).mono ?_; rintro e w4 ⟨rfl, HN⟩)
      | (go_at_call 42; refine (HMK.out _ _ _ _ (by assumption)).mono ?_; rintro e w4 ⟨rfl, HN⟩)) | fail
  all_goals
    go_wp2_with fail
    go_ret2
    exact ⟨rfl, HN⟩
end
end Go.Proofs.YtheblkofemobdaaGreat

/-
  Package pool: Where, Read, Free.
-/
namespace Go.Proofs.YtheblkofemobdaaGreat
open Go.RowKit

section
variable {e : Env} {w : World} {R A : List HP} {b tb rb : Nat} {S : PoolS} {M : RamS}
set_option maxHeartbeats 400000 in
theorem poWhere (H : Holds e w (poolH b tb rb S :: R)) (x : Int) : Calls Tryz.prog 19 #[.pointer (some ⟨b, 0, none⟩), .int .i64 x] w
    (Ret e (.tuple #[(S.tab.get x).1.val, .bool (S.tab.get x).2]) (poolH b tb rb S :: R)) := by
  have H1 := H.alloc (.cells #[.int .i64 0, .int .i64 0, .int .i64 0] 51)
  obtain ⟨k0, _, Y, h5, h6⟩ := pool_tab H1.swap
  have CG := Lib.hid (hget h5 x)
  have HB := Lib.hid h6
  clear h5 h6 H1 H
  generalize S.tab.get x = gx at *
  obtain ⟨⟨pp, po, pl⟩, ok⟩ := gx
  generalize hbx : w.heap.size = bx at *
  unfold PlaceS.val at *
  dsimp only at *
  go_enter Tryz.func19, Tryz.ntmps19
  go_wp2_with fail
  refine CG.out.mono ?_
  rintro en w1 ⟨rfl, H2⟩
  have H3 := (HB.out _ _ H2).swap
  have hc3 := H3.cells
  have hf3 := H3.frozen
  clear CG HB H2 k0
  rw [hbx] at *
  go_wp2_with fail
  refine bodyPost_at (((H3.set 0 _).set 1 _).set 2 _) fun w9 H9 => ?_
  have hc9 := H9.cells
  exact bodyPost_ret (v := .tuple #[.agg #[.int .i64 pp, .int .i64 po, .int .i64 pl], .bool ok]) (by simp [results, Tryz.results19, go_sem, hc9]) rfl ⟨rfl, H9.drop⟩
set_option maxHeartbeats 400000 in
theorem poWhere_nil (x : Int) (H : Holds e w R) : Calls Tryz.prog 19 #[.pointer none, .int .i64 x] w (Ret e (.tuple #[PlaceS.zero.val, .bool false]) R) := by
  have H3 := H.alloc (.cells #[.int .i64 0, .int .i64 0, .int .i64 0] 51)
  generalize hbx : w.heap.size = bx at *
  unfold PlaceS.val PlaceS.zero at *
  dsimp only at *
  go_enter Tryz.func19, Tryz.ntmps19
  go_wp2_with fail
  rw [hbx] at *
  have hc3 := H3.cells
  exact bodyPost_ret (v := .tuple #[.agg #[.int .i64 0, .int .i64 0, .int .i64 0], .bool false]) (by simp [results, Tryz.results19, go_sem, hc3]) rfl ⟨rfl, H3.drop⟩
set_option maxRecDepth 100000 in
set_option maxHeartbeats 1000000 in
theorem poRead_yes (H : Holds e w (poolH b tb rb S :: ramH rb M :: R)) {x : Int} {n ob ln : Nat} {g : PgS} (hx : S.tab.get x = (⟨n, ob, ln⟩, true)) (hn : S.pgs[n]? = some (some g)) (hO : PgOk M g) (hob : ob < g.set.length) (hset : g.set.getD ob false = true) (hln : ln ≤ csz g.cls) :
    Calls Tryz.prog 20 #[.pointer (some ⟨b, 0, none⟩), .int .i64 x] w
      (RetEx e (fun v : Value => .tuple #[v, .bool true]) (fun v => bts v (obj M g ob ln) :: poolH b tb rb S :: ramH rb (M.tk (csz g.cls * ob + 0) ln) :: R)) := by
  have CW := poWhere H x
  rw [hx] at CW
  unfold PlaceS.val at CW
  dsimp only at CW
  have hc := hO.cls
  go_enter Tryz.func20, Tryz.ntmps20
  go_wp2_with fail
  refine CW.mono ?_
  rintro en w1 ⟨rfl, H1⟩
  have H2 := H1.alloc (.cells #[.int .i64 n, .int .i64 ob, .int .i64 ln] 51)
  obtain ⟨bx, hbx⟩ : ∃ bx, w1.heap.size = bx := ⟨_, rfl⟩
  rw [hbx] at H2
  obtain ⟨p0, o0, c, bs, E, pb, bb, hE, hb, hpb, hbb, HPC, h⟩ := pool_at H2.q2 hn hc
  have hlen : n < E.length := (List.getElem?_eq_some_iff.1 hpb).1
  have hlni : (n : Int) < E.length := by omega
  have HPC := Lib.hid HPC
  have HK : Hid (∀ w' X0 X1 X2 X3 X4 X5 Y, Holds e w' (X0 :: X1 :: pts b (poolO tb rb (.slice (some ⟨p0, o0, none⟩) E.length c) (bs.map ptrV)) :: row (.slice (some ⟨p0, o0, none⟩) E.length c) 90 1 E.length (E.map ptrE) :: X2 :: X3 :: X4 :: X5 :: pts bx (.cells #[.int .i64 n, .int .i64 ob, .int .i64 ln] 51 (0, 0)) :: Y) →
      w'.cell? ⟨b, 1, none⟩ = some (.pointer (some ⟨rb, 0, none⟩)) ∧ w'.cell? ⟨b, 2, none⟩ = some (.slice (some ⟨p0, o0, none⟩) E.length c) ∧ w'.cell? ⟨p0, o0 + n, none⟩ = some (.pointer (some ⟨pb, 0, none⟩)) ∧ w'.cell? ⟨bx, 0, none⟩ = some (.int .i64 n) ∧ w'.cell? ⟨bx, 1, none⟩ = some (.int .i64 ob) ∧ w'.cell? ⟨bx, 2, none⟩ = some (.int .i64 ln)) :=
    Lib.hid fun w' X0 X1 X2 X3 X4 X5 Y h => by
      have h9 : Holds e w' (pts bx (.cells #[.int .i64 n, .int .i64 ob, .int .i64 ln] 51 (0, 0)) :: _) := h.imp fun _ s => (Take.there _ (Take.there _ (Take.there _ (Take.there _ (Take.there _ (Take.there _ (Take.there _ (Take.there _ (Take.here _ _))))))))) _ s
      exact ⟨h.p2.cells 1, h.p2.cells 2, (HPC.out _ _ h.p3).1, h9.cells 0, h9.cells 1, h9.cells 2⟩
  have HRD : Hid (∀ w' X0 X1 X2 X3 X4 X5 Y, Holds e w' (pgH pb g :: X0 :: X1 :: X2 :: X3 :: X4 :: X5 :: ramH rb M :: Y) → Calls Tryz.prog 58 #[.pointer (some ⟨pb, 0, none⟩), .pointer (some ⟨rb, 0, none⟩), .int .i64 ob, .int .i64 ln] w'
      (RetEx e (fun v : Value => .tuple #[v, .bool true]) (fun v => bts v (obj M g ob ln) :: pgH pb g :: X0 :: X1 :: X2 :: X3 :: X4 :: X5 :: ramH rb (M.tk (csz g.cls * ob + 0) ln) :: Y))) :=
    Lib.hid fun w' X0 X1 X2 X3 X4 X5 Y h' => (pgRead_yes h'.p7.swap hO hob hset hln).mono fun en w'' ⟨v, h1, h2⟩ => ⟨v, h1, h2.cons fun _ s => Sat.q7 (Sat.q1 s)⟩
  have HB := Lib.hid fun (w' : World) (Y : List HP) (h : Holds e w' (pgH pb g :: grpB bb (S.bks g.cls) :: pts b (poolO tb rb (.slice (some ⟨p0, o0, none⟩) E.length c) (bs.map ptrV)) :: row (.slice (some ⟨p0, o0, none⟩) E.length c) 90 1 E.length (E.map ptrE) :: pts tb S.tab.obj :: all pgE (E.eraseIdx n) :: all (bkH S.bks) (bs.zipIdx.eraseIdx g.cls) :: Y)) => pool_back (S := S) (tab := S.tab) (n := n) (g := g) (g' := g) hE hb hpb hbb h
  rw [set_same hn, updB_self] at HB
  have HD := h.drawn (w1.drawn + 1)
  obtain ⟨j1, j2, j3, j4, j5, j6⟩ := HK.out _ _ _ _ _ _ _ _ h
  clear HPC hE hb hpb hbb H2 H1 CW H hx hn hO hob hset hln
  generalize hbs' : obj M g ob ln = bs' at *
  generalize hM' : M.tk (csz g.cls * ob + 0) ln = M' at *
  have HBS := Lib.hid hbs'
  have HMM := Lib.hid hM'
  clear hbs' hM'
  generalize E.length = l at *
  clear HD j1 j2 j3 j4 j5 j6
  go_wp2_with fail
  refine code_at h fun w5 h5 => ?_
  clear hbx h
  obtain ⟨j1, j2, j3, j4, j5, j6⟩ := HK.out _ _ _ _ _ _ _ _ h5
  have HD := h5.drawn (w5.drawn + 1)
  first | go_region_held3 (fun w' => w'.cell? ⟨b, 1, none⟩ = some (.pointer (some ⟨rb, 0, none⟩)) ∧ w'.cell? ⟨b, 2, none⟩ = some (.slice (some ⟨p0, o0, none⟩) l c) ∧ w'.cell? ⟨p0, o0 + n, none⟩ = some (.pointer (some ⟨pb, 0, none⟩)) ∧ w'.cell? ⟨bx, 0, none⟩ = some (.int .i64 n) ∧ w'.cell? ⟨bx, 1, none⟩ = some (.int .i64 ob) ∧ w'.cell? ⟨bx, 2, none⟩ = some (.int .i64 ln))
    (first | exact HK.out _ _ _ _ _ _ _ _ (by assumption) | exact HK.out _ _ _ _ _ _ _ _ (Holds.drop (by assumption)))
    (first | (go_at_call 58; refine (HRD.out _ _ _ _ _ _ _ _ (by assumption)).mono ?_; rintro e w4 ⟨v, rfl, HN⟩)) | fail
  all_goals
    have HN2 := (HB.out _ _ HN.q7).swap.d3
    clear HB HK HRD HN h5 HD
    go_wp2_with fail
    go_ret2
    rw [← HBS.out, ← HMM.out] at HN2
    exact ⟨v, rfl, HN2⟩
set_option maxHeartbeats 400000 in
theorem poRead_no (H : Holds e w (poolH b tb rb S :: R)) {x : Int} {p : PlaceS} (hx : S.tab.get x = (p, false)) :
    Calls Tryz.prog 20 #[.pointer (some ⟨b, 0, none⟩), .int .i64 x] w (Ret e (.tuple #[.slice none 0 0, .bool false]) (poolH b tb rb S :: R)) := by
  have CW := poWhere H x
  rw [hx] at CW
  unfold PlaceS.val at CW
  dsimp only at CW
  go_enter Tryz.func20, Tryz.ntmps20
  go_wp2_with fail
  refine CW.mono ?_
  rintro en w1 ⟨rfl, H1⟩
  have H2 := (H1.alloc (.cells #[.int .i64 p.page, .int .i64 p.obj, .int .i64 p.len] 51)).drop
  go_wp2_with fail
  go_ret2
  exact ⟨rfl, H2⟩
set_option maxHeartbeats 400000 in
theorem poRead_nil (H : Holds e w R) (x : Int) :
    Calls Tryz.prog 20 #[.pointer none, .int .i64 x] w (Ret e (.tuple #[.slice none 0 0, .bool false]) R) := by
  have CW := poWhere_nil x H
  unfold PlaceS.val PlaceS.zero at CW
  dsimp only at CW
  go_enter Tryz.func20, Tryz.ntmps20
  go_wp2_with fail
  refine CW.mono ?_
  rintro en w1 ⟨rfl, H1⟩
  have H2 := (H1.alloc (.cells #[.int .i64 0, .int .i64 0, .int .i64 0] 51)).drop
  go_wp2_with fail
  go_ret2
  exact ⟨rfl, H2⟩
end
end Go.Proofs.YtheblkofemobdaaGreat

/-
  Package pool: Free.
-/
namespace Go.Proofs.YtheblkofemobdaaGreat
open Go.RowKit

/-- An object given back: the RAM, the zspage. -/
def givePg (M : RamS) (g : PgS) (k : Nat) : RamS × PgS := (M.wr g.row (csz g.cls * k + 0) (le 2 g.first), { g with set := g.set.set k false, first := k + 1 })
section
variable {e : Env} {w : World} {R A : List HP} {b tb rb : Nat} {S : PoolS} {M : RamS}
theorem poFree_nil (x : Int) : Calls Tryz.prog 13 #[.pointer none, .int .i64 x] w (Quiet w (.bool false)) := by
  go_enter Tryz.func13, Tryz.ntmps13
  go_wp2
  go_ret
  exact ⟨rfl, 0, rfl⟩
set_option maxHeartbeats 400000 in
theorem poFree_no (H : Holds e w (poolH b tb rb S :: R)) {x : Int} {p : PlaceS} (hx : S.tab.drop x = ((p, false), S.tab)) (hm0 : 0 ≤ S.tab.many) (hm : S.tab.many ≤ 512) :
    Calls Tryz.prog 13 #[.pointer (some ⟨b, 0, none⟩), .int .i64 x] w (Ret e (.bool false) (poolH b tb rb S :: R)) := by
  obtain ⟨k0, _, Y, h5, h6⟩ := pool_tab H
  have CD := hdrop h5 x hm0 hm
  rw [hx] at CD
  unfold PlaceS.val at CD
  dsimp only at CD
  have CD := Lib.hid CD
  have HB := Lib.hid h6
  clear h5 h6 H
  go_enter Tryz.func13, Tryz.ntmps13
  go_wp2_with fail
  refine CD.out.mono ?_
  rintro en w1 ⟨rfl, H1⟩
  have H2 := ((HB.out _ _ H1).alloc (.cells #[.int .i64 p.page, .int .i64 p.obj, .int .i64 p.len] 51)).drop
  clear CD HB H1
  go_wp2_with fail
  go_ret
  exact ⟨rfl, H2⟩
set_option maxRecDepth 100000 in
set_option maxHeartbeats 1000000 in
theorem poFree_yes (H : Holds e w (poolH b tb rb S :: ramH rb M :: R)) {x : Int} {n ob ln : Nat} {g : PgS} {tab : TabS} (hx : S.tab.drop x = ((⟨n, ob, ln⟩, true), tab)) (hm0 : 0 ≤ S.tab.many) (hm : S.tab.many ≤ 512) (hn : S.pgs[n]? = some (some g)) (hO : PgOk M g) (hob : ob < g.set.length) (hset : g.set.getD ob false = true) {F : List HP}
    (hnote : ∀ w' Y, Holds e w' (poolH b tb rb ⟨tab, S.pgs.set n (some (givePg M g ob).2), S.bks⟩ :: ramH rb (givePg M g ob).1 :: Y) → Calls Tryz.prog 46 #[.pointer (some ⟨b, 0, none⟩), .int .i64 n] w' (Ret e (.tuple #[]) (grp F :: Y))) :
    Calls Tryz.prog 13 #[.pointer (some ⟨b, 0, none⟩), .int .i64 x] w (Ret e (.bool true) (grp F :: R)) := by
  obtain ⟨k0, _, Y, h5, h6⟩ := pool_tab H
  have CD := hdrop h5 x hm0 hm
  rw [hx] at CD
  unfold PlaceS.val at CD
  dsimp only at CD
  have CD := Lib.hid CD
  have hc := hO.cls
  clear h5 H
  go_enter Tryz.func13, Tryz.ntmps13
  go_wp2_with fail
  refine CD.out.mono ?_
  rintro en w1 ⟨rfl, H0⟩
  have H1 := h6 _ _ H0
  clear CD h6 H0 k0
  have H2 := H1.alloc (.cells #[.int .i64 n, .int .i64 ob, .int .i64 ln] 51)
  obtain ⟨bx, hbx⟩ : ∃ bx, w1.heap.size = bx := ⟨_, rfl⟩
  rw [hbx] at H2
  obtain ⟨p0, o0, c, bs, E, pb, bb, hE, hb, hpb, hbb, HPC, h⟩ := pool_at H2.q2 (S := ⟨tab, S.pgs, S.bks⟩) hn hc
  dsimp only at h hE
  have hlen : n < E.length := (List.getElem?_eq_some_iff.1 hpb).1
  have hlni : (n : Int) < E.length := by omega
  have HPC := Lib.hid HPC
  have HK : Hid (∀ w' X0 X1 X2 X3 X4 X5 Y, Holds e w' (X0 :: X1 :: pts b (poolO tb rb (.slice (some ⟨p0, o0, none⟩) E.length c) (bs.map ptrV)) :: row (.slice (some ⟨p0, o0, none⟩) E.length c) 90 1 E.length (E.map ptrE) :: X2 :: X3 :: X4 :: X5 :: pts bx (.cells #[.int .i64 n, .int .i64 ob, .int .i64 ln] 51 (0, 0)) :: Y) →
      w'.cell? ⟨b, 1, none⟩ = some (.pointer (some ⟨rb, 0, none⟩)) ∧ w'.cell? ⟨b, 2, none⟩ = some (.slice (some ⟨p0, o0, none⟩) E.length c) ∧ w'.cell? ⟨p0, o0 + n, none⟩ = some (.pointer (some ⟨pb, 0, none⟩)) ∧ w'.cell? ⟨bx, 0, none⟩ = some (.int .i64 n) ∧ w'.cell? ⟨bx, 1, none⟩ = some (.int .i64 ob)) :=
    Lib.hid fun w' X0 X1 X2 X3 X4 X5 Y h => by
      have h9 : Holds e w' (pts bx (.cells #[.int .i64 n, .int .i64 ob, .int .i64 ln] 51 (0, 0)) :: _) := h.imp fun _ s => (Take.there _ (Take.there _ (Take.there _ (Take.there _ (Take.there _ (Take.there _ (Take.there _ (Take.there _ (Take.here _ _))))))))) _ s
      exact ⟨h.p2.cells 1, h.p2.cells 2, (HPC.out _ _ h.p3).1, h9.cells 0, h9.cells 1⟩
  have HGV : Hid (∀ w' X0 X1 X2 X3 X4 X5 Y, Holds e w' (pgH pb g :: X0 :: X1 :: X2 :: X3 :: X4 :: X5 :: ramH rb M :: Y) → Calls Tryz.prog 45 #[.pointer (some ⟨pb, 0, none⟩), .pointer (some ⟨rb, 0, none⟩), .int .i64 ob] w'
      (Ret e (.bool true) (pgH pb (givePg M g ob).2 :: X0 :: X1 :: X2 :: X3 :: X4 :: X5 :: ramH rb (givePg M g ob).1 :: Y))) :=
    Lib.hid fun w' X0 X1 X2 X3 X4 X5 Y h' => (pgGive_yes h'.p7.swap hO hob hset).mono fun en w'' ⟨h1, h2⟩ => ⟨h1, h2.swap.q7⟩
  have HB := Lib.hid fun (w' : World) (Y : List HP) (h : Holds e w' (pgH pb (givePg M g ob).2 :: grpB bb (S.bks g.cls) :: pts b (poolO tb rb (.slice (some ⟨p0, o0, none⟩) E.length c) (bs.map ptrV)) :: row (.slice (some ⟨p0, o0, none⟩) E.length c) 90 1 E.length (E.map ptrE) :: pts tb tab.obj :: all pgE (E.eraseIdx n) :: all (bkH S.bks) (bs.zipIdx.eraseIdx g.cls) :: Y)) => pool_back (S := S) (tab := tab) (n := n) (g := g) (g' := (givePg M g ob).2) hE hb hpb hbb h
  rw [updB_self] at HB
  have HNT := Lib.hid hnote
  clear HPC hE hb hpb hbb H2 H1 hx hn hO hob hset hnote
  generalize givePg M g ob = P at *
  obtain ⟨M', g'⟩ := P
  dsimp only at *
  generalize E.length = l at *
  go_wp2_with fail
  refine code_at h fun w5 h5 => ?_
  clear hbx h
  obtain ⟨j1, j2, j3, j4, j5⟩ := HK.out _ _ _ _ _ _ _ _ h5
  have HD := h5.drawn (w5.drawn + 1)
  first | go_region_held3 (fun w' => w'.cell? ⟨b, 1, none⟩ = some (.pointer (some ⟨rb, 0, none⟩)) ∧ w'.cell? ⟨b, 2, none⟩ = some (.slice (some ⟨p0, o0, none⟩) l c) ∧ w'.cell? ⟨p0, o0 + n, none⟩ = some (.pointer (some ⟨pb, 0, none⟩)) ∧ w'.cell? ⟨bx, 0, none⟩ = some (.int .i64 n) ∧ w'.cell? ⟨bx, 1, none⟩ = some (.int .i64 ob))
    (exact HK.out _ _ _ _ _ _ _ _ (by assumption))
    (first | (go_at_call 45; refine (HGV.out _ _ _ _ _ _ _ _ (by assumption)).mono ?_; rintro e w4 ⟨rfl, HN⟩)) | fail
  all_goals
    have HN2 := HB.out _ _ HN
    have m0 : w4.cell? ⟨bx, 0, none⟩ = some (.int .i64 n) := HN2.p2.cells 0
    clear HB HK HGV HN h5 HD
    go_wp2_with fail
    refine (HNT.out _ _ HN2).mono ?_
    rintro en w6 ⟨rfl, H6⟩
    clear HNT HN2 m0
    go_wp2_with fail
    go_ret
    exact ⟨rfl, H6.d1⟩
end
end Go.Proofs.YtheblkofemobdaaGreat

/-
  Package pool: RAM, Need.
-/
namespace Go.Proofs.YtheblkofemobdaaGreat
open Go.RowKit

section
variable {e : Env} {w : World} {R A : List HP} {b tb rb : Nat} {S : PoolS} {M : RamS}
theorem poRAM (H : Holds e w (poolH b tb rb S :: R)) : Calls Tryz.prog 26 #[.pointer (some ⟨b, 0, none⟩)] w (Quiet w (.pointer (some ⟨rb, 0, none⟩))) := by
  obtain ⟨_, k1, _⟩ := pool_tab H
  clear H
  go_enter Tryz.func26, Tryz.ntmps26
  go_wp2_with fail
  go_ret
  exact ⟨rfl, 0, rfl⟩
theorem poRAM_nil : Calls Tryz.prog 26 #[.pointer none] w (Quiet w (.pointer none)) := by
  go_enter Tryz.func26, Tryz.ntmps26
  go_wp2_with fail
  go_ret
  exact ⟨rfl, 0, rfl⟩
theorem poNeed_bad (n : Int) (hn : n < 1 ∨ 4096 < n) (pv : Option Addr) : Calls Tryz.prog 17 #[.pointer pv, .int .i64 n] w (Quiet w (.int .i64 0)) := by
  have co := clsOf_no (w := w) n hn
  go_enter Tryz.func17, Tryz.ntmps17
  go_wp2_with fail
  refine co.mono ?_
  rintro en w1 ⟨rfl, n1, rfl⟩
  go_wp2_with fail
  go_ret
  exact ⟨rfl, _, rfl⟩
set_option maxRecDepth 100000 in
theorem poNeed (H : Holds e w (poolH b tb rb S :: R)) (n : Nat) (h1 : 1 ≤ n) (h2 : n ≤ 4096) (hok : BkOk (S.bks ((n - 1) / 64))) :
    Calls Tryz.prog 17 #[.pointer (some ⟨b, 0, none⟩), .int .i64 n] w (Ret e (.int .i64 ((if (bestB (S.bks ((n - 1) / 64)) []).isSome then 0 else cFrames ((n - 1) / 64) : Nat) : Int)) (poolH b tb rb S :: R)) := by
  have co := clsOf_yes (w := w) n h1 h2
  obtain ⟨cl, hcl⟩ : ∃ cl, (n - 1) / 64 = cl := ⟨_, rfl⟩
  have hc : cl < 64 := by omega
  rw [hcl] at co hok ⊢
  clear hcl
  have cF := fun w => clsFrames (w := w) cl hc
  obtain ⟨bst, hbst⟩ : ∃ bst, bestB (S.bks cl) [] = bst := ⟨_, rfl⟩
  rw [hbst]
  have HBST := Lib.hid hbst
  generalize cFrames cl = cf at *
  obtain ⟨r, hr⟩ : ∃ r, (if bst.isSome then 0 else cf) = r := ⟨_, rfl⟩
  rw [hr]
  have HR := Lib.hid hr
  clear hbst hr
  go_enter Tryz.func17, Tryz.ntmps17
  go_wp2_with fail
  refine co.mono ?_
  rintro en w1 ⟨rfl, n1, rfl⟩
  obtain ⟨bb, k1, k2, X, h, hback⟩ := pool_book (H.drewN n1) hc
  have hi0 : (0 : Int) ≤ (cl : Int) := by omega
  have hi1 : (cl : Int) < 64 := by omega
  have HBK := Lib.hid fun (w' : World) (h' : Holds e w' (grpB bb (S.bks cl) :: row (.slice none 0 0) 3 1 ([] : List Int).length (ints []) :: X :: R)) => by
    have := hback w' _ (h'.cons fun _ => Sat.drop)
    rwa [poolS_self] at this
  have CB := gBest (vb := .slice none 0 0) (bs := []) (row.nil 3 1 h).swap (by simp) hok
  clear h hback hok H co
  rw [HBST.out] at CB
  have CB := Lib.hid CB
  cases bst with
  | none =>
    go_wp2_with fail
    refine CB.out.mono ?_
    rintro en w2 ⟨rfl, H1⟩
    have H2 := HBK.out _ H1
    clear CB H1 HBK k1 k2
    go_wp2_with fail
    refine (cF _).mono ?_
    rintro en w3 ⟨rfl, n3, rfl⟩
    go_wp2_with fail
    go_ret
    exact ⟨by rw [← HR.out]; rfl, H2.drewN n3⟩
  | some m =>
    go_wp2_with fail
    refine CB.out.mono ?_
    rintro en w2 ⟨rfl, H1⟩
    have H2 := HBK.out _ H1
    clear CB H1 HBK k1 k2
    go_wp2_with fail
    go_ret
    exact ⟨by rw [← HR.out]; rfl, H2⟩
end
end Go.Proofs.YtheblkofemobdaaGreat

/-
  Package pool: Sheets.
-/
namespace Go.Proofs.YtheblkofemobdaaGreat
open Go.RowKit

abbrev ShQ := (Nat × PgS) × Value
def shCells (q : ShQ) : List Value := [.int .i64 q.1.1, .int .i64 q.1.2.cls, .int .i64 (cnt q.1.2.set), .int .i64 q.1.2.set.length, q.2]
def shRow (q : ShQ) : HP := row q.2 3 1 q.1.2.row.length (ints (nats q.1.2.row))
/-- A slice of sheets, each with its row. -/
def shH (v : Value) (L : List (Nat × PgS)) : HP := exh fun Q : List ShQ => grp [pur (Q.map (·.1) = L), row v 45 5 Q.length (Q.flatMap shCells), all shRow Q]
def sheetsOf : List (Option PgS) → Nat → List (Nat × PgS)
  | [], _ => []
  | none :: l, n => sheetsOf l (n + 1)
  | some g :: l, n => (n, g) :: sheetsOf l (n + 1)
theorem sheetsOf_append : ∀ (l l' : List (Option PgS)) (n : Nat), sheetsOf (l ++ l') n = sheetsOf l n ++ sheetsOf l' (n + l.length)
  | [], l', n => rfl
  | none :: l, l', n => by simp only [List.cons_append, sheetsOf, sheetsOf_append l l', List.length_cons]; rw [Nat.add_assoc, Nat.add_comm 1]
  | some g :: l, l', n => by simp only [List.cons_append, sheetsOf, sheetsOf_append l l', List.length_cons]; rw [Nat.add_assoc, Nat.add_comm 1]
theorem elem_sh : ElemOf Tryz.prog 39 45 5 56 := ElemOf.mk (z := .agg #[.int .i64 0, .int .i64 0, .int .i64 0, .int .i64 0, .slice none 0 0]) (by kernel_rfl) (by kernel_rfl) rfl (by decide)
section
variable {e : Env} {w : World} {R A : List HP} {b tb rb : Nat} {S : PoolS} {M : RamS}
theorem shCells_length (Q : List ShQ) : (Q.flatMap shCells).length = Q.length * 5 := by
  induction Q with
  | nil => rfl
  | cons q Q ih => rw [List.flatMap_cons, List.length_append, ih]; simp [shCells]; omega
theorem sh_nil (H : Holds e w R) : Holds e w (shH (.slice none 0 0) [] :: R) :=
  Holds.mkExh [] (Holds.mkGrp (L := [_, _, _]) (Holds.mkPur rfl (row.nil 45 5 (Holds.allNil (f := shRow) H))))

theorem reads_lits (w : World) (xs : List Value) (T : TypeId) : Reads (w.alloc (.cells xs.toArray T)) (.slice (some ⟨w.heap.size, 0, none⟩) 1 1) xs.length 1 xs := by
  refine ⟨by simp, .inr ⟨_, _, rfl, Nat.le_refl _, fun j u hj => ?_⟩⟩
  rw [Addr.add_at, Nat.zero_add, World.cell?_alloc_new]
  simpa using hj
theorem sheetsOf_le : ∀ (l : List (Option PgS)) (n : Nat), (sheetsOf l n).length ≤ l.length
  | [], _ => Nat.le_refl _
  | none :: l, n => by simp only [sheetsOf, List.length_cons]; have := sheetsOf_le l (n + 1); omega
  | some g :: l, n => by simp only [sheetsOf, List.length_cons]; have := sheetsOf_le l (n + 1); omega
theorem sheets_none {l : List (Option PgS)} {k : Nat} (h : l[k]? = some none) : sheetsOf (l.take (k + 1)) 0 = sheetsOf (l.take k) 0 := by
  rw [List.take_add_one, h, sheetsOf_append]
  simp [sheetsOf]
theorem sheets_some {l : List (Option PgS)} {k : Nat} {g : PgS} (h : l[k]? = some (some g)) : sheetsOf (l.take (k + 1)) 0 = sheetsOf (l.take k) 0 ++ [(k, g)] := by
  have hk := (List.getElem?_eq_some_iff.1 h).1
  rw [List.take_add_one, h, sheetsOf_append]
  simp [sheetsOf]
  omega
theorem poSheets_nil : Calls Tryz.prog 14 #[.pointer none] w (Quiet w (.slice none 0 0)) := by
  go_enter Tryz.func14, Tryz.ntmps14
  go_wp2_with fail
  go_ret
  exact ⟨rfl, 0, rfl⟩
set_option maxRecDepth 100000 in
set_option maxHeartbeats 2000000 in
theorem poSheets (H : Holds e w (poolH b tb rb S :: R)) (hl : S.pgs.length ≤ 1000) (hr : ∀ (n : Nat) (g : PgS), S.pgs[n]? = some (some g) → g.row.length ≤ 4) :
    Calls Tryz.prog 14 #[.pointer (some ⟨b, 0, none⟩)] w (RetEx e (fun v : Value => v) (fun v => shH v (sheetsOf S.pgs 0) :: poolH b tb rb S :: R)) := by
  obtain ⟨a, c, bs, E, hE, hb, h⟩ := pool_open H
  have hEl : E.length = S.pgs.length := by rw [← hE, List.length_map]
  have k2 : w.cell? ⟨b, 2, none⟩ = some (.slice a E.length c) := h.cells 2
  have HE := Lib.hid hE
  have HB := Lib.hid hb
  have HR := Lib.hid hr
  obtain ⟨l, hl0⟩ : ∃ l, E.length = l := ⟨_, rfl⟩
  have HLL := Lib.hid hl0
  have hl2 : l ≤ 1000 := by omega
  rw [hl0] at h k2
  have h0 : Holds e w (shH (.slice none 0 0) (sheetsOf (S.pgs.take 0) 0) :: pts b (poolO tb rb (.slice a l c) (bs.map ptrV)) :: row (.slice a l c) 90 1 l (E.map ptrE) :: pts tb S.tab.obj :: all pgE E :: all (bkH S.bks) bs.zipIdx :: R) := sh_nil (h.cons fun _ => Sat.q1)
  have HLP : Hid (l = S.pgs.length) := Lib.hid (by omega)
  clear hE hb hr hl0 hEl h H hl
  go_enter Tryz.func14, Tryz.ntmps14
  go_wp2_with fail
  go_loopw [3, 13] (fun v i wr => ∃ k, k ≤ l ∧ i = .int .i64 (k : Nat) ∧ Holds e wr (shH v (sheetsOf (S.pgs.take k) 0) :: pts b (poolO tb rb (.slice a l c) (bs.map ptrV)) :: row (.slice a l c) 90 1 l (E.map ptrE) :: pts tb S.tab.obj :: all pgE E :: all (bkH S.bks) bs.zipIdx :: R)) (fun _ i _ => l - (intOf i).toNat)
  case atStart => exact ⟨0, by omega, rfl, h0⟩
  case round =>
    obtain ⟨k, hk, rfl, HX⟩ := hrel
    clear h0 k2
    by_cases hlt : k < l
    · obtain ⟨x, hx⟩ : ∃ x, E[k]? = some x := ⟨_, List.getElem?_eq_getElem (by rw [HLL.out]; exact hlt)⟩
      have hpx : S.pgs[k]? = some (peG x) := by rw [← HE.out, List.getElem?_map, hx]; rfl
      obtain ⟨p0, o0, rfl, hel⟩ := (row.reads HX.p2).at (by omega)
      have q0 := hel k (ptrE x) (by rw [List.getElem?_map, hx]; rfl)
      clear hel
      cases x with
      | none =>
        have HS : Hid (sheetsOf (S.pgs.take (k + 1)) 0 = sheetsOf (S.pgs.take k) 0) := Lib.hid (sheets_none hpx)
        unfold ptrE at q0
        clear hpx hx
        go_wp2_with fail
        go_roundw
        case rel => exact ⟨k + 1, by omega, by go_num, by rw [HS.out]; exact HX⟩
        case measure => simp [intOf]; omega
      | some y =>
        obtain ⟨pb, g⟩ := y
        have HS : Hid (sheetsOf (S.pgs.take (k + 1)) 0 = sheetsOf (S.pgs.take k) 0 ++ [(k, g)]) := Lib.hid (sheets_some hpx)
        have hr4 := HR.out k g hpx
        have q1 : wr.cell? ⟨p0, o0 + k, none⟩ = some (.pointer (some ⟨pb, 0, none⟩)) := q0
        obtain ⟨Q, h1⟩ := Holds.exE HX
        have h2 := Holds.ungrp h1
        have hQ := Lib.hid h2.purE
        have h3 : Holds e wr (row _ 45 5 Q.length (Q.flatMap shCells) :: all shRow Q :: pts b (poolO tb rb (.slice (some ⟨p0, o0, none⟩) l c) (bs.map ptrV)) :: row (.slice (some ⟨p0, o0, none⟩) l c) 90 1 l (E.map ptrE) :: pts tb S.tab.obj :: all pgE E :: all (bkH S.bks) bs.zipIdx :: R) := h2.drop
        have h4 := Holds.focus (f := pgE) hx h3.p5
        have h5 : Holds e wr (pgH pb g :: all pgE (E.eraseIdx k) :: row _ 45 5 Q.length (Q.flatMap shCells) :: all shRow Q :: pts b (poolO tb rb (.slice (some ⟨p0, o0, none⟩) l c) (bs.map ptrV)) :: row (.slice (some ⟨p0, o0, none⟩) l c) 90 1 l (E.map ptrE) :: pts tb S.tab.obj :: all (bkH S.bks) bs.zipIdx :: R) := h4
        obtain ⟨sa, sc, hsv⟩ := row_shape h5.p2
        subst hsv
        have hQl : Q.length ≤ 1000 := by
          have h6 := congrArg List.length hQ.out
          rw [List.length_map] at h6
          have h7 := sheetsOf_le (S.pgs.take k) 0
          rw [List.length_take] at h7
          omega
        have cC := Lib.hid fun (w' : World) (X : List HP) (h : Holds e w' (pgH pb g :: X)) => retQ (pgClass h) h
        have cU := Lib.hid fun (w' : World) (X : List HP) (h : Holds e w' (pgH pb g :: X)) => retQ (pgUsed h) h
        have cM := Lib.hid fun (w' : World) (X : List HP) (h : Holds e w' (pgH pb g :: X)) => retQ (pgMany h) h
        have cR := Lib.hid fun (w' : World) (X : List HP) (h : Holds e w' (pgH pb g :: X)) => pgRow h (by omega : g.row.length ≤ 1000)
        clear hpx q0 HX h1 h2 h3 h4
        go_wp2_with fail
        refine (cC.out _ _ h5).mono ?_
        rintro en w1 ⟨rfl, H1⟩
        clear h5 q1
        go_wp2_with fail
        refine (cU.out _ _ H1).mono ?_
        rintro en w2 ⟨rfl, H2⟩
        clear H1
        go_wp2_with fail
        refine (cM.out _ _ H2).mono ?_
        rintro en w3 ⟨rfl, H3⟩
        clear H2
        go_wp2_with fail
        refine (cR.out _ _ H3).mono ?_
        rintro en w4 ⟨vr, rfl, H4⟩
        obtain ⟨ra, rc, rfl⟩ := row_shape H4
        clear H3 cC cU cM cR
        go_wp2_with (at_builtin; refine wpList_append_sl rfl _ _ _ rfl 45 5 56 elem_sh (.slice sa Q.length sc) Q.length (Q.flatMap shCells) rfl ((H4.alloc _).p4) (.slice (some ⟨w4.heap.size, 0, none⟩) 1 1) 1 (shCells ((k, g), .slice ra g.row.length rc)) rfl (reads_lits w4 (shCells ((k, g), .slice ra g.row.length rc)) 45) (fun u hu => by simp [shCells] at hu; rcases hu with rfl | rfl | rfl | rfl | rfl <;> rfl) ?_ ?_ ?_)
        · unfold maxLen; omega
        · omega
        intro v' w6 H9
        have g1 : Holds e w6 (pgE (some (pb, g)) :: all pgE (E.eraseIdx k) :: row v' 45 5 (Q.length + 1) (Q.flatMap shCells ++ shCells ((k, g), .slice ra g.row.length rc)) :: shRow ((k, g), .slice ra g.row.length rc) :: all shRow Q :: pts b (poolO tb rb (.slice (some ⟨p0, o0, none⟩) l c) (bs.map ptrV)) :: row (.slice (some ⟨p0, o0, none⟩) l c) 90 1 l (E.map ptrE) :: pts tb S.tab.obj :: all (bkH S.bks) bs.zipIdx :: R) := H9.d1.p3.p3
        have g2 := Holds.unfocus' (f := pgE) hx g1
        have g3 := Holds.allSnoc (f := shRow) (x := ((k, g), .slice ra g.row.length rc)) g2.p3.p3
        have e1 : Q.flatMap shCells ++ shCells ((k, g), .slice ra g.row.length rc) = (Q ++ [((k, g), Value.slice ra g.row.length rc)]).flatMap shCells := by simp
        have e2 : Q.length + 1 = (Q ++ [((k, g), Value.slice ra g.row.length rc)]).length := by simp
        have g4 := g3.p2
        rw [e1, e2] at g4
        have g5 : Holds e w6 (shH v' (sheetsOf (S.pgs.take (k + 1)) 0) :: _) := Holds.mkExh (Q ++ [((k, g), Value.slice ra g.row.length rc)]) (Holds.mkGrp (L := [_, _, _]) (Holds.mkPur (by rw [HS.out, List.map_append, hQ.out]; rfl) g4))
        have g6 := Lib.hid (g5.cons fun _ => Sat.q3)
        clear H9 g1 g2 g3 g4 g5 H4 e1 e2
        go_wp2_with fail
        go_roundw
        case rel => exact ⟨k + 1, by omega, by go_num, g6.out⟩
        case measure => simp [intOf]; omega
    · obtain rfl : k = l := by omega
      rw [HLP.out, List.take_length, ← HLP.out, ← HLL.out] at HX
      have HY := HX.q5.cons fun _ => Sat.q1
      have HZ := (pool_close (S := S) HE.out HB.out HY).swap
      clear HX HY
      rw [← HLL.out]
      go_wp2_with fail
      go_ret
      exact ⟨_, rfl, HZ⟩
end
end Go.Proofs.YtheblkofemobdaaGreat

/-
  Package pool: Frames.
-/
namespace Go.Proofs.YtheblkofemobdaaGreat
open Go.RowKit

def framesOf (L : List (Nat × PgS)) : Nat := (L.map fun p => p.2.row.length).sum
theorem sh_cells {w : World} {g o c : Nat} {Q : List ShQ} (h : Reads w (.slice (some ⟨g, o, none⟩) Q.length c) 5 Q.length (Q.flatMap shCells)) {k : Nat} {q : ShQ} (hk : Q[k]? = some q) :
    w.cell? ⟨g, o + k * 5, none⟩ = some (.int .i64 q.1.1) ∧ w.cell? ⟨g, o + k * 5 + 1, none⟩ = some (.int .i64 q.1.2.cls) ∧ w.cell? ⟨g, o + k * 5 + 2, none⟩ = some (.int .i64 (cnt q.1.2.set)) ∧ w.cell? ⟨g, o + k * 5 + 3, none⟩ = some (.int .i64 q.1.2.set.length) ∧ w.cell? ⟨g, o + k * 5 + 4, none⟩ = some q.2 := by
  have key : ∀ j u, (shCells q)[j]? = some u → (Q.flatMap shCells)[k * 5 + j]? = some u := by
    intro j u hj
    have hj5 : j < 5 := by have := (List.getElem?_eq_some_iff.1 hj).1; simpa [shCells] using this
    clear h
    induction Q generalizing k with
    | nil => cases hk
    | cons q0 Q ih =>
      have hl : (shCells q0).length = 5 := rfl
      rw [List.flatMap_cons]
      cases k with
      | zero => cases hk; rw [Nat.zero_mul, Nat.zero_add, List.getElem?_append_left (by omega)]; exact hj
      | succ k =>
        rw [List.getElem?_append_right (by omega), hl, show (k + 1) * 5 + j - 5 = k * 5 + j by omega]
        exact ih hk
  obtain ⟨_, h2 | ⟨a, cap, h3, _, h5⟩⟩ := h
  · cases h2.1
  · cases h3
    have f : ∀ j u, (shCells q)[j]? = some u → w.cell? ⟨g, o + (k * 5 + j), none⟩ = some u := fun j u hj => by
      have := h5 _ u (key j u hj)
      rwa [Addr.add_at] at this
    exact ⟨f 0 _ rfl, by rw [Nat.add_assoc]; exact f 1 _ rfl, by rw [Nat.add_assoc]; exact f 2 _ rfl, by rw [Nat.add_assoc]; exact f 3 _ rfl, by rw [Nat.add_assoc]; exact f 4 _ rfl⟩
section
variable {e : Env} {w : World} {R A : List HP} {b tb rb : Nat} {S : PoolS} {M : RamS}
theorem framesOf_le {L : List (Nat × PgS)} (h : ∀ p ∈ L, p.2.row.length ≤ 4) : framesOf L ≤ 4 * L.length := by
  induction L with
  | nil => exact Nat.le_refl _
  | cons p L ih =>
    have h1 := h p (by simp)
    have h2 := ih fun q hq => h q (by simp [hq])
    simp only [framesOf, List.map_cons, List.sum_cons, List.length_cons] at h2 ⊢
    omega
theorem sheetsOf_mem : ∀ {l : List (Option PgS)} {n : Nat} {p : Nat × PgS}, p ∈ sheetsOf l n → ∃ i, l[i]? = some (some p.2) ∧ p.1 = n + i
  | [], _, _, h => by cases h
  | none :: l, n, p, h => by
    obtain ⟨i, h1, h2⟩ := sheetsOf_mem (l := l) (n := n + 1) h
    exact ⟨i + 1, by simpa using h1, by omega⟩
  | some g :: l, n, p, h => by
    rcases List.mem_cons.1 h with rfl | h
    · exact ⟨0, rfl, rfl⟩
    · obtain ⟨i, h1, h2⟩ := sheetsOf_mem (l := l) (n := n + 1) h
      exact ⟨i + 1, by simpa using h1, by omega⟩

set_option maxRecDepth 100000 in
set_option maxHeartbeats 1000000 in
theorem poFrames (H : Holds e w (poolH b tb rb S :: R)) (hl : S.pgs.length ≤ 1000) (hr : ∀ (n : Nat) (g : PgS), S.pgs[n]? = some (some g) → g.row.length ≤ 4) :
    Calls Tryz.prog 24 #[.pointer (some ⟨b, 0, none⟩)] w (Ret e (.int .i64 (framesOf (sheetsOf S.pgs 0))) (poolH b tb rb S :: R)) := by
  have CS := Lib.hid (poSheets H hl hr)
  have hLl := sheetsOf_le S.pgs 0
  have hL4 : ∀ p ∈ sheetsOf S.pgs 0, p.2.row.length ≤ 4 := fun p hp => let ⟨i, h1, _⟩ := sheetsOf_mem hp; hr i _ h1
  have HL4 := Lib.hid hL4
  obtain ⟨L, hL⟩ : ∃ L, sheetsOf S.pgs 0 = L := ⟨_, rfl⟩
  rw [hL] at CS HL4 hLl ⊢
  have hLl2 : L.length ≤ 1000 := by omega
  clear hL hLl hL4 H hr hl
  go_enter Tryz.func24, Tryz.ntmps24
  go_wp2_with fail
  refine CS.out.mono ?_
  rintro en w1 ⟨v, rfl, H1⟩
  obtain ⟨Q, h1⟩ := Holds.exE H1
  have h2 := Holds.ungrp h1
  have hQ := h2.purE
  have h3 : Holds e w1 (row v 45 5 Q.length (Q.flatMap shCells) :: all shRow Q :: poolH b tb rb S :: R) := h2.drop
  obtain ⟨av, cv, rfl⟩ := row_shape h3
  have hql : Q.length = L.length := by rw [← hQ, List.length_map]
  have HQ := Lib.hid hQ
  have hql2 : Q.length ≤ 1000 := by omega
  clear CS H1 h1 h2 hQ hql
  go_wp2_with fail
  go_loopw [3, 9] (fun x i wr => ∃ k, k ≤ Q.length ∧ i = .int .i64 (k : Nat) ∧ x = .int .i64 (framesOf (L.take k)) ∧ Holds e wr (row (.slice av Q.length cv) 45 5 Q.length (Q.flatMap shCells) :: all shRow Q :: poolH b tb rb S :: R)) (fun _ i _ => Q.length - (intOf i).toNat)
  case atStart => exact ⟨0, by omega, rfl, rfl, h3⟩
  case round =>
    obtain ⟨k, hk, rfl, rfl, HX⟩ := hrel
    clear h3
    by_cases hlt : k < Q.length
    · obtain ⟨q, hq⟩ : ∃ q, Q[k]? = some q := ⟨_, List.getElem?_eq_getElem hlt⟩
      have hLk : L[k]? = some q.1 := by rw [← HQ.out, List.getElem?_map, hq]; rfl
      obtain ⟨ra, rc, hqv⟩ := row_shape (Holds.focus (f := shRow) hq HX.swap)
      obtain ⟨g0, o0, rfl, _⟩ := (row.reads HX).at (by omega)
      obtain ⟨c0, c1, c2, c3, c4⟩ := sh_cells (row.reads HX) hq
      rw [hqv] at c4
      have HF : Hid (framesOf (L.take (k + 1)) = framesOf (L.take k) + q.1.2.row.length) := Lib.hid (by rw [List.take_add_one, hLk]; simp [framesOf])
      have hb1 : q.1.2.row.length ≤ 4 := HL4.out _ (List.mem_of_getElem? hLk)
      have hb2 : framesOf (L.take k) ≤ 4000 := by
        have := framesOf_le (L := L.take k) fun p hp => HL4.out p (List.mem_of_mem_take hp)
        rw [List.length_take] at this
        omega
      have H2 := Lib.hid (HX.alloc (.cells #[.int .i64 q.1.1, .int .i64 q.1.2.cls, .int .i64 (cnt q.1.2.set), .int .i64 q.1.2.set.length, .slice ra q.1.2.row.length rc] 45)).drop
      clear hq hLk hqv HX
      generalize framesOf (L.take k) = fk at *
      go_wp2_with fail
      go_roundw
      case rel => exact ⟨k + 1, by omega, by go_num, by rw [HF.out]; go_num, H2.out⟩
      case measure => simp [intOf]; omega
    · obtain rfl : k = Q.length := by omega
      have hQ2 : L.take Q.length = L := List.take_of_length_le (by rw [← HQ.out, List.length_map]; exact Nat.le_refl _)
      have HQ2 := Lib.hid hQ2
      have HZ := HX.drop.drop
      clear hQ2 HX
      go_wp2_with fail
      go_ret
      exact ⟨by rw [HQ2.out]; rfl, HZ⟩
end
end Go.Proofs.YtheblkofemobdaaGreat

/-
  Package pool: Objects.
-/
namespace Go.Proofs.YtheblkofemobdaaGreat
open Go.RowKit

def objectsOf (L : List (Nat × PgS)) (c : Int) : Nat := (L.map fun p => if (p.2.cls : Int) = c then cnt p.2.set else 0).sum
theorem objectsOf_le {L : List (Nat × PgS)} {c : Int} (h : ∀ p ∈ L, p.2.set.length ≤ 256) : objectsOf L c ≤ 256 * L.length := by
  induction L with
  | nil => exact Nat.le_refl _
  | cons p L ih =>
    have h1 := h p (by simp)
    have h3 := cnt_le p.2.set
    have h2 := ih fun q hq => h q (by simp [hq])
    simp only [objectsOf, List.map_cons, List.sum_cons, List.length_cons] at h2 ⊢
    split <;> omega
section
variable {e : Env} {w : World} {R A : List HP} {b tb rb : Nat} {S : PoolS} {M : RamS}
set_option maxRecDepth 100000 in
set_option maxHeartbeats 1000000 in
theorem poObjects (H : Holds e w (poolH b tb rb S :: R)) (hl : S.pgs.length ≤ 1000) (hr : ∀ (n : Nat) (g : PgS), S.pgs[n]? = some (some g) → g.row.length ≤ 4) (hs : ∀ (n : Nat) (g : PgS), S.pgs[n]? = some (some g) → g.set.length ≤ 256) (x : Int) :
    Calls Tryz.prog 25 #[.pointer (some ⟨b, 0, none⟩), .int .i64 x] w (Ret e (.int .i64 (objectsOf (sheetsOf S.pgs 0) x)) (poolH b tb rb S :: R)) := by
  have CS := Lib.hid (poSheets H hl hr)
  have hLl := sheetsOf_le S.pgs 0
  have hL4 : ∀ p ∈ sheetsOf S.pgs 0, p.2.set.length ≤ 256 := fun p hp => let ⟨i, h1, _⟩ := sheetsOf_mem hp; hs i _ h1
  have HL4 := Lib.hid hL4
  obtain ⟨L, hL⟩ : ∃ L, sheetsOf S.pgs 0 = L := ⟨_, rfl⟩
  rw [hL] at CS HL4 hLl ⊢
  have hLl2 : L.length ≤ 1000 := by omega
  clear hL hLl hL4 H hr hl hs
  go_enter Tryz.func25, Tryz.ntmps25
  go_wp2_with fail
  refine CS.out.mono ?_
  rintro en w1 ⟨v, rfl, H1⟩
  obtain ⟨Q, h1⟩ := Holds.exE H1
  have h2 := Holds.ungrp h1
  have hQ := h2.purE
  have h3 : Holds e w1 (row v 45 5 Q.length (Q.flatMap shCells) :: all shRow Q :: poolH b tb rb S :: R) := h2.drop
  obtain ⟨av, cv, rfl⟩ := row_shape h3
  have hql : Q.length = L.length := by rw [← hQ, List.length_map]
  have HQ := Lib.hid hQ
  have hql2 : Q.length ≤ 1000 := by omega
  clear CS H1 h1 h2 hQ hql
  go_wp2_with fail
  go_loopw [5, 11] (fun y i wr => ∃ k, k ≤ Q.length ∧ i = .int .i64 (k : Nat) ∧ y = .int .i64 (objectsOf (L.take k) x) ∧ Holds e wr (row (.slice av Q.length cv) 45 5 Q.length (Q.flatMap shCells) :: all shRow Q :: poolH b tb rb S :: R)) (fun _ i _ => Q.length - (intOf i).toNat)
  case atStart => exact ⟨0, by omega, rfl, rfl, h3⟩
  case round =>
    obtain ⟨k, hk, rfl, rfl, HX⟩ := hrel
    clear h3
    by_cases hlt : k < Q.length
    · obtain ⟨q, hq⟩ : ∃ q, Q[k]? = some q := ⟨_, List.getElem?_eq_getElem hlt⟩
      have hLk : L[k]? = some q.1 := by rw [← HQ.out, List.getElem?_map, hq]; rfl
      obtain ⟨ra, rc, hqv⟩ := row_shape (Holds.focus (f := shRow) hq HX.swap)
      obtain ⟨g0, o0, rfl, _⟩ := (row.reads HX).at (by omega)
      obtain ⟨c0, c1, c2, c3, c4⟩ := sh_cells (row.reads HX) hq
      rw [hqv] at c4
      have HF : Hid (objectsOf (L.take (k + 1)) x = objectsOf (L.take k) x + if (q.1.2.cls : Int) = x then cnt q.1.2.set else 0) := Lib.hid (by rw [List.take_add_one, hLk]; simp [objectsOf])
      have hb1 : cnt q.1.2.set ≤ 256 := Nat.le_trans (cnt_le _) (HL4.out _ (List.mem_of_getElem? hLk))
      have hb2 : objectsOf (L.take k) x ≤ 256000 := by
        have := objectsOf_le (c := x) (L := L.take k) fun p hp => HL4.out p (List.mem_of_mem_take hp)
        rw [List.length_take] at this
        omega
      have H2 := Lib.hid (HX.alloc (.cells #[.int .i64 q.1.1, .int .i64 q.1.2.cls, .int .i64 (cnt q.1.2.set), .int .i64 q.1.2.set.length, .slice ra q.1.2.row.length rc] 45)).drop
      clear hq hLk hqv HX
      generalize objectsOf (L.take k) x = fk at *
      by_cases hcx : (q.1.2.cls : Int) = x
      · have HF2 : Hid (objectsOf (L.take (k + 1)) x = fk + cnt q.1.2.set) := Lib.hid (by rw [HF.out, if_pos hcx])
        subst hcx
        go_wp2_with fail
        go_roundw
        case rel => exact ⟨k + 1, by omega, by go_num, by rw [HF2.out]; go_num, H2.out⟩
        case measure => simp [intOf]; omega
      · have HF2 : Hid (objectsOf (L.take (k + 1)) x = fk) := Lib.hid (by rw [HF.out, if_neg hcx]; rfl)
        go_wp2_with fail
        go_roundw
        case rel => exact ⟨k + 1, by omega, by go_num, by rw [HF2.out], H2.out⟩
        case measure => simp [intOf]; omega
    · obtain rfl : k = Q.length := by omega
      have hQ2 : L.take Q.length = L := List.take_of_length_le (by rw [← HQ.out, List.length_map]; exact Nat.le_refl _)
      have HQ2 := Lib.hid hQ2
      have HZ := HX.drop.drop
      clear hQ2 HX
      go_wp2_with fail
      go_ret
      exact ⟨by rw [HQ2.out]; rfl, HZ⟩
end
end Go.Proofs.YtheblkofemobdaaGreat

/-
  Package pool: places, Bytes.
-/
namespace Go.Proofs.YtheblkofemobdaaGreat
open Go.RowKit

def plCells (p : PlaceS) : List Value := [.int .i64 p.page, .int .i64 p.obj, .int .i64 p.len]
def placesOf (t : TabS) (k : Nat) : List PlaceS := (List.range k).filterMap fun i : Nat => if t.inb ((i : Int) + 1) then some (t.all (i + 1)) else none
theorem placesOf_succ (t : TabS) (k : Nat) : placesOf t (k + 1) = placesOf t k ++ if t.inb ((k : Int) + 1) then [t.all (k + 1)] else [] := by
  unfold placesOf
  rw [List.range_succ, List.filterMap_append]
  congr 1
  by_cases h : t.inb ((k : Int) + 1) = true <;> simp [h]
theorem placesOf_len (t : TabS) (k : Nat) : (placesOf t k).length ≤ k := by
  have := List.length_filterMap_le (fun i : Nat => if t.inb ((i : Int) + 1) then some (t.all (i + 1)) else none) (List.range k)
  rwa [List.length_range] at this
theorem elem_pl : ElemOf Tryz.prog 105 51 3 24 := ElemOf.mk (z := .agg #[.int .i64 0, .int .i64 0, .int .i64 0]) (by kernel_rfl) (by kernel_rfl) rfl (by decide)
def plRow (v : Value) (L : List PlaceS) : HP := row v 51 3 L.length (L.flatMap plCells)
theorem plCells_length (L : List PlaceS) : (L.flatMap plCells).length = L.length * 3 := by
  induction L with
  | nil => rfl
  | cons q Q ih => rw [List.flatMap_cons, List.length_append, ih]; simp [plCells]; omega
theorem heap_alloc1 (w : World) (o : Obj) : (w.alloc o).heap.size = w.heap.size + 1 := by show (w.heap.push o).size = _; simp
section
variable {e : Env} {w : World} {R A : List HP} {b tb rb : Nat} {S : PoolS} {M : RamS}
set_option maxRecDepth 100000 in
set_option maxHeartbeats 1000000 in
theorem poPlaces (H : Holds e w (poolH b tb rb S :: R)) : Calls Tryz.prog 61 #[.pointer (some ⟨b, 0, none⟩)] w (RetEx e (fun v : Value => v) (fun v => plRow v (placesOf S.tab 512) :: poolH b tb rb S :: R)) := by
  have H0 : Holds e w (plRow (.slice none 0 0) (placesOf S.tab 0) :: poolH b tb rb S :: R) := row.nil 51 3 H
  clear H
  go_enter Tryz.func61, Tryz.ntmps61
  go_wp2_with fail
  go_loopw [3, 7] (fun v i wr => ∃ k, k ≤ 512 ∧ i = .int .i64 (k : Nat) ∧ Holds e wr (plRow v (placesOf S.tab k) :: poolH b tb rb S :: R)) (fun _ i _ => 512 - (intOf i).toNat)
  case atStart => exact ⟨0, by omega, rfl, H0⟩
  case round =>
    obtain ⟨k, hk, rfl, HX⟩ := hrel
    clear H0
    by_cases hlt : k < 512
    · have CW := Lib.hid (poWhere HX.swap ((k : Int) + 1))
      have HS := Lib.hid (placesOf_succ S.tab k)
      have hLl := placesOf_len S.tab k
      obtain ⟨L, hL⟩ : ∃ L, placesOf S.tab k = L := ⟨_, rfl⟩
      rw [hL] at HX HS hLl CW
      clear hL
      obtain ⟨sa, sc, hsv⟩ := row_shape HX
      subst hsv
      have HG : Hid (S.tab.get ((k : Int) + 1) = if S.tab.inb ((k : Int) + 1) then (S.tab.all (k + 1), true) else (PlaceS.zero, false)) := Lib.hid (by unfold TabS.get; rw [show ((k : Int) + 1).toNat = k + 1 by omega])
      cases hin : S.tab.inb ((k : Int) + 1) with
      | false =>
        have CW2 := CW.out
        have HS2 := HS.out
        have HG2 := HG.out
        rw [hin] at HG2 HS2
        simp only [if_neg (by decide : ¬ (false = true)), List.append_nil] at HG2 HS2
        rw [HG2] at CW2
        unfold PlaceS.val PlaceS.zero at CW2
        dsimp only at CW2
        have CW3 := Lib.hid CW2
        have HS3 := Lib.hid HS2
        clear CW CW2 HG HG2 HS HS2 HX hin
        go_wp2_with fail
        refine CW3.out.mono ?_
        rintro en w1 ⟨rfl, H1⟩
        have H2 := Lib.hid (H1.alloc (.cells #[.int .i64 0, .int .i64 0, .int .i64 0] 51)).drop.swap
        clear CW3 H1
        go_wp2_with fail
        go_roundw
        case rel => exact ⟨k + 1, by omega, by go_num, by rw [HS3.out]; exact H2.out⟩
        case measure => simp [intOf]; omega
      | true =>
        have CW2 := CW.out
        have HS2 := HS.out
        have HG2 := HG.out
        rw [hin] at HG2 HS2
        simp only [if_pos] at HG2 HS2
        rw [HG2] at CW2
        generalize hp : S.tab.all (k + 1) = p at *
        obtain ⟨pp, po, pl⟩ := p
        unfold PlaceS.val at CW2
        dsimp only at CW2
        have CW3 := Lib.hid CW2
        have HS3 := Lib.hid HS2
        clear CW CW2 HG HG2 HS HS2 HX hin hp
        go_wp2_with fail
        refine CW3.out.mono ?_
        rintro en w1 ⟨rfl, H1⟩
        have H2 := (H1.alloc (.cells #[.int .i64 pp, .int .i64 po, .int .i64 pl] 51)).drop.swap
        have H3 : Holds e _ (row (.slice sa L.length sc) 51 3 L.length (L.flatMap plCells) :: _) := H2
        clear CW3 H1 H2
        go_wp2_with (at_builtin; refine wpList_append_sl rfl _ _ _ rfl 51 3 24 elem_pl (.slice sa L.length sc) L.length (L.flatMap plCells) rfl ((H3.alloc _).swap) (.slice (some ⟨w1.heap.size + 1, 0, none⟩) 1 1) 1 (plCells (PlaceS.mk pp po pl)) rfl (by have h8 := reads_lits (w1.alloc (.cells #[.int .i64 pp, .int .i64 po, .int .i64 pl] 51)) (plCells (PlaceS.mk pp po pl)) 51; rwa [heap_alloc1] at h8) (fun u hu => by simp [plCells] at hu; rcases hu with rfl | rfl | rfl <;> rfl) ?_ ?_ ?_)
        · unfold maxLen; omega
        · omega
        intro v' w6 H9
        have e1 : L.flatMap plCells ++ plCells (PlaceS.mk pp po pl) = (L ++ [PlaceS.mk pp po pl]).flatMap plCells := by simp
        have e2 : L.length + 1 = (L ++ [(⟨pp, po, pl⟩ : PlaceS)]).length := by simp
        have g4 := H9.d1
        rw [e1, e2] at g4
        have g5 : Holds e w6 (plRow v' (placesOf S.tab (k + 1)) :: poolH b tb rb S :: R) := by rw [HS3.out]; exact g4
        have g6 := Lib.hid g5
        clear H9 g4 g5 H3 e1 e2
        go_wp2_with fail
        go_roundw
        case rel => exact ⟨k + 1, by omega, by go_num, g6.out⟩
        case measure => simp [intOf]; omega
    · obtain rfl : k = 512 := by omega
      have HY := Lib.hid HX
      clear HX
      go_wp2_with fail
      go_ret
      exact ⟨_, rfl, HY.out⟩

def bytesSum (L : List PlaceS) : Int := (L.map (·.len)).sum
theorem pl_cells {w : World} {g o c : Nat} {L : List PlaceS} (h : Reads w (.slice (some ⟨g, o, none⟩) L.length c) 3 L.length (L.flatMap plCells)) {k : Nat} {p : PlaceS} (hk : L[k]? = some p) :
    w.cell? ⟨g, o + k * 3, none⟩ = some (.int .i64 p.page) ∧ w.cell? ⟨g, o + k * 3 + 1, none⟩ = some (.int .i64 p.obj) ∧ w.cell? ⟨g, o + k * 3 + 2, none⟩ = some (.int .i64 p.len) := by
  have key : ∀ j u, (plCells p)[j]? = some u → (L.flatMap plCells)[k * 3 + j]? = some u := by
    intro j u hj
    have hj5 : j < 3 := by have := (List.getElem?_eq_some_iff.1 hj).1; simpa [plCells] using this
    clear h
    induction L generalizing k with
    | nil => cases hk
    | cons q0 Q ih =>
      have hl : (plCells q0).length = 3 := rfl
      rw [List.flatMap_cons]
      cases k with
      | zero => cases hk; rw [Nat.zero_mul, Nat.zero_add, List.getElem?_append_left (by omega)]; exact hj
      | succ k =>
        rw [List.getElem?_append_right (by omega), hl, show (k + 1) * 3 + j - 3 = k * 3 + j by omega]
        exact ih hk
  obtain ⟨_, h2 | ⟨a, cap, h3, _, h5⟩⟩ := h
  · cases h2.1
  · cases h3
    have f : ∀ j u, (plCells p)[j]? = some u → w.cell? ⟨g, o + (k * 3 + j), none⟩ = some u := fun j u hj => by
      have := h5 _ u (key j u hj)
      rwa [Addr.add_at] at this
    exact ⟨f 0 _ rfl, by rw [Nat.add_assoc]; exact f 1 _ rfl, by rw [Nat.add_assoc]; exact f 2 _ rfl⟩
theorem bytesSum_bd {L : List PlaceS} (h : ∀ p ∈ L, 0 ≤ p.len ∧ p.len ≤ 4096) : 0 ≤ bytesSum L ∧ bytesSum L ≤ 4096 * L.length := by
  induction L with
  | nil => exact ⟨Int.le_refl _, Int.le_refl _⟩
  | cons p L ih =>
    have h1 := h p (by simp)
    have h2 := ih fun q hq => h q (by simp [hq])
    simp only [bytesSum, List.map_cons, List.sum_cons, List.length_cons] at h2 ⊢
    omega
theorem placesOf_mem {t : TabS} {k : Nat} {p : PlaceS} (h : p ∈ placesOf t k) : ∃ i, i < k ∧ t.inb ((i : Int) + 1) = true ∧ p = t.all (i + 1) := by
  unfold placesOf at h
  obtain ⟨i, hi, hp⟩ := List.mem_filterMap.1 h
  split at hp
  · next hin => cases hp; exact ⟨i, List.mem_range.1 hi, hin, rfl⟩
  · cases hp
set_option maxRecDepth 100000 in
set_option maxHeartbeats 1000000 in
theorem poBytes (H : Holds e w (poolH b tb rb S :: R)) (hb : ∀ h, S.tab.inb h = true → 0 ≤ (S.tab.all h.toNat).len ∧ (S.tab.all h.toNat).len ≤ 4096) :
    Calls Tryz.prog 23 #[.pointer (some ⟨b, 0, none⟩)] w (Ret e (.int .i64 (bytesSum (placesOf S.tab 512))) (poolH b tb rb S :: R)) := by
  have CS := Lib.hid (poPlaces H)
  have hL4 : ∀ p ∈ placesOf S.tab 512, 0 ≤ p.len ∧ p.len ≤ 4096 := fun p hp => by
    obtain ⟨i, _, h2, rfl⟩ := placesOf_mem hp
    exact hb _ h2
  have HL4 := Lib.hid hL4
  have hLl := placesOf_len S.tab 512
  obtain ⟨L, hL⟩ : ∃ L, placesOf S.tab 512 = L := ⟨_, rfl⟩
  rw [hL] at CS HL4 hLl ⊢
  clear hL hL4 H hb
  go_enter Tryz.func23, Tryz.ntmps23
  go_wp2_with fail
  refine CS.out.mono ?_
  rintro en w1 ⟨v, rfl, H1⟩
  obtain ⟨av, cv, rfl⟩ := row_shape H1
  clear CS
  go_wp2_with fail
  go_loopw [3, 9] (fun x i wr => ∃ k, k ≤ L.length ∧ i = .int .i64 (k : Nat) ∧ x = .int .i64 (bytesSum (L.take k)) ∧ Holds e wr (plRow (.slice av L.length cv) L :: poolH b tb rb S :: R)) (fun _ i _ => L.length - (intOf i).toNat)
  case atStart => exact ⟨0, by omega, rfl, rfl, H1⟩
  case round =>
    obtain ⟨k, hk, rfl, rfl, HX⟩ := hrel
    clear H1
    by_cases hlt : k < L.length
    · obtain ⟨p, hq⟩ : ∃ p, L[k]? = some p := ⟨_, List.getElem?_eq_getElem hlt⟩
      obtain ⟨g0, o0, rfl, _⟩ := (row.reads HX).at (by omega)
      obtain ⟨c0, c1, c2⟩ := pl_cells (row.reads HX) hq
      have HF : Hid (bytesSum (L.take (k + 1)) = bytesSum (L.take k) + p.len) := Lib.hid (by rw [List.take_add_one, hq]; simp [bytesSum])
      have hb1 := HL4.out p (List.mem_of_getElem? hq)
      have hb2 := bytesSum_bd (L := L.take k) fun p hp => HL4.out p (List.mem_of_mem_take hp)
      rw [List.length_take] at hb2
      have H2 := Lib.hid (HX.alloc (.cells #[.int .i64 p.page, .int .i64 p.obj, .int .i64 p.len] 51)).drop
      clear hq HX
      obtain ⟨hb11, hb12⟩ := hb1
      obtain ⟨hb21, hb22⟩ := hb2
      have hb23 : bytesSum (L.take k) ≤ 4096 * 512 := by omega
      clear hb22
      obtain ⟨pp, po, pl⟩ := p
      dsimp only at *
      generalize bytesSum (L.take k) = fk at *
      go_wp2_with fail
      go_roundw
      case rel => exact ⟨k + 1, by omega, by go_num, by rw [HF.out], H2.out⟩
      case measure => simp [intOf]; omega
    · obtain rfl : k = L.length := by omega
      have HZ := HX.drop
      rw [List.take_length]
      clear HX
      go_wp2_with fail
      go_ret
      exact ⟨rfl, HZ⟩
set_option maxRecDepth 100000 in
theorem poPlaces_nil (H : Holds e w R) : Calls Tryz.prog 61 #[.pointer none] w (Ret e (.slice none 0 0) R) := by
  have CW := Lib.hid fun (w' : World) (x : Int) (h : Holds e w' R) => poWhere_nil x h
  unfold PlaceS.val PlaceS.zero at CW
  dsimp only at CW
  go_enter Tryz.func61, Tryz.ntmps61
  go_wp2_with fail
  go_loopw [3, 7] (fun v i wr => ∃ k, k ≤ 512 ∧ i = .int .i64 (k : Nat) ∧ v = .slice none 0 0 ∧ Holds e wr R) (fun _ i _ => 512 - (intOf i).toNat)
  case atStart => exact ⟨0, by omega, rfl, rfl, H⟩
  case round =>
    obtain ⟨k, hk, rfl, rfl, HX⟩ := hrel
    clear H
    by_cases hlt : k < 512
    · go_wp2_with fail
      refine (CW.out _ _ HX).mono ?_
      rintro en w1 ⟨rfl, H1⟩
      have H2 := Lib.hid (H1.alloc (.cells #[.int .i64 0, .int .i64 0, .int .i64 0] 51)).drop
      clear CW H1
      go_wp2_with fail
      go_roundw
      case rel => exact ⟨k + 1, by omega, by go_num, rfl, H2.out⟩
      case measure => simp [intOf]; omega
    · obtain rfl : k = 512 := by omega
      go_wp2_with fail
      go_ret
      exact ⟨rfl, HX⟩
theorem poBytes_nil (H : Holds e w R) : Calls Tryz.prog 23 #[.pointer none] w (Ret e (.int .i64 0) R) := by
  have CS := Lib.hid (poPlaces_nil H)
  clear H
  go_enter Tryz.func23, Tryz.ntmps23
  go_wp2_with fail
  refine CS.out.mono ?_
  rintro en w1 ⟨rfl, H1⟩
  clear CS
  go_wp2_with fail
  go_loopw [3, 9] (fun x i wr => i = .int .i64 0 ∧ x = .int .i64 0 ∧ Holds e wr R) (fun _ i _ => 0)
  case atStart => exact ⟨rfl, rfl, H1⟩
  case round =>
    obtain ⟨rfl, rfl, HX⟩ := hrel
    go_wp2_with fail
    go_ret
    exact ⟨rfl, HX⟩
theorem poFrames_nil (H : Holds e w R) : Calls Tryz.prog 24 #[.pointer none] w (Ret e (.int .i64 0) R) := by
  have CS := Lib.hid (retQ poSheets_nil H)
  clear H
  go_enter Tryz.func24, Tryz.ntmps24
  go_wp2_with fail
  refine CS.out.mono ?_
  rintro en w1 ⟨rfl, H1⟩
  clear CS
  go_wp2_with fail
  go_loopw [3, 9] (fun x i wr => i = .int .i64 0 ∧ x = .int .i64 0 ∧ Holds e wr R) (fun _ i _ => 0)
  case atStart => exact ⟨rfl, rfl, H1⟩
  case round =>
    obtain ⟨rfl, rfl, HX⟩ := hrel
    go_wp2_with fail
    go_ret
    exact ⟨rfl, HX⟩
theorem poObjects_nil (H : Holds e w R) (x : Int) : Calls Tryz.prog 25 #[.pointer none, .int .i64 x] w (Ret e (.int .i64 0) R) := by
  have CS := Lib.hid (retQ poSheets_nil H)
  clear H
  go_enter Tryz.func25, Tryz.ntmps25
  go_wp2_with fail
  refine CS.out.mono ?_
  rintro en w1 ⟨rfl, H1⟩
  clear CS
  go_wp2_with fail
  go_loopw [5, 11] (fun y i wr => i = .int .i64 0 ∧ y = .int .i64 0 ∧ Holds e wr R) (fun _ i _ => 0)
  case atStart => exact ⟨rfl, rfl, H1⟩
  case round =>
    obtain ⟨rfl, rfl, HX⟩ := hrel
    go_wp2_with fail
    go_ret
    exact ⟨rfl, HX⟩
theorem poShift_nil (H : Holds e w R) (x : Int) : Calls Tryz.prog 21 #[.pointer none, .int .i64 x] w (Ret e (.bool false) R) := by
  have CW := poWhere_nil x H
  unfold PlaceS.val PlaceS.zero at CW
  dsimp only at CW
  go_enter Tryz.func21, Tryz.ntmps21
  go_wp2_with fail
  refine CW.mono ?_
  rintro en w1 ⟨rfl, H1⟩
  have H2 := (H1.alloc (.cells #[.int .i64 0, .int .i64 0, .int .i64 0] 51)).drop
  go_wp2_with fail
  go_ret
  exact ⟨rfl, H2⟩
theorem poShift_no (H : Holds e w (poolH b tb rb S :: R)) {x : Int} {p : PlaceS} (hx : S.tab.get x = (p, false)) : Calls Tryz.prog 21 #[.pointer (some ⟨b, 0, none⟩), .int .i64 x] w (Ret e (.bool false) (poolH b tb rb S :: R)) := by
  have CW := poWhere H x
  rw [hx] at CW
  unfold PlaceS.val at CW
  dsimp only at CW
  go_enter Tryz.func21, Tryz.ntmps21
  go_wp2_with fail
  refine CW.mono ?_
  rintro en w1 ⟨rfl, H1⟩
  have H2 := (H1.alloc (.cells #[.int .i64 p.page, .int .i64 p.obj, .int .i64 p.len] 51)).drop
  go_wp2_with fail
  go_ret
  exact ⟨rfl, H2⟩
end
end Go.Proofs.YtheblkofemobdaaGreat

/-
  Package pool: Shift.
-/
namespace Go.Proofs.YtheblkofemobdaaGreat
open Go.RowKit

section
variable {e : Env} {w : World} {R A : List HP} {b tb rb : Nat} {S : PoolS} {M : RamS}
theorem row_one (H : Holds e w A) (u : Value) : Holds e (w.alloc (.cells #[u] 3)) (row (.slice (some ⟨w.heap.size, 0, none⟩) 1 1) 3 1 1 [u] :: A) :=
  row.made (H.alloc (.cells #[u] 3)) (by omega) (by unfold maxLen; omega) rfl rfl
set_option maxRecDepth 100000 in
set_option maxHeartbeats 1000000 in
/-- No other zspage has room. -/
theorem poShift_stay (H : Holds e w (poolH b tb rb S :: R)) {x : Int} {n ob ln : Nat} {g : PgS} (hx : S.tab.get x = (⟨n, ob, ln⟩, true)) (hn : S.pgs[n]? = some (some g)) (hc : g.cls < 64) (hok : BkOk (S.bks g.cls)) (hbest : bestB (S.bks g.cls) [(n : Int)] = none) :
    Calls Tryz.prog 21 #[.pointer (some ⟨b, 0, none⟩), .int .i64 x] w (Ret e (.bool false) (poolH b tb rb S :: R)) := by
  have CW := Lib.hid (poWhere H x)
  have CW := CW.out
  rw [hx] at CW
  unfold PlaceS.val at CW
  dsimp only at CW
  have CW := Lib.hid CW
  clear H hx
  go_enter Tryz.func21, Tryz.ntmps21
  go_wp2_with fail
  refine CW.out.mono ?_
  rintro en w1 ⟨rfl, H1⟩
  clear CW
  have H2 := H1.alloc (.cells #[.int .i64 n, .int .i64 ob, .int .i64 ln] 51)
  obtain ⟨bx, hbx⟩ : ∃ bx, w1.heap.size = bx := ⟨_, rfl⟩
  rw [hbx] at H2
  clear H1
  obtain ⟨p0, o0, c, bs, E, pb, bb, hE, hb, hpb, hbb, HPC, h⟩ := pool_at H2.swap hn hc
  have hlen : n < E.length := (List.getElem?_eq_some_iff.1 hpb).1
  have hlni : (n : Int) < E.length := by omega
  have hi0 : (0 : Int) ≤ (g.cls : Int) := by omega
  have hi1 : (g.cls : Int) < 64 := by omega
  have HPC := Lib.hid HPC
  have HK : Hid (∀ w' X0 X1 X2 X3 X4 Y, Holds e w' (X0 :: X1 :: pts b (poolO tb rb (.slice (some ⟨p0, o0, none⟩) E.length c) (bs.map ptrV)) :: row (.slice (some ⟨p0, o0, none⟩) E.length c) 90 1 E.length (E.map ptrE) :: X2 :: X3 :: X4 :: pts bx (.cells #[.int .i64 n, .int .i64 ob, .int .i64 ln] 51 (0, 0)) :: Y) →
      w'.cell? ⟨b, 2, none⟩ = some (.slice (some ⟨p0, o0, none⟩) E.length c) ∧ w'.cell? ⟨b, 3 + g.cls, none⟩ = some (.pointer (some ⟨bb, 0, none⟩)) ∧ w'.cell? ⟨p0, o0 + n, none⟩ = some (.pointer (some ⟨pb, 0, none⟩)) ∧ w'.cell? ⟨bx, 0, none⟩ = some (.int .i64 n)) :=
    Lib.hid fun w' X0 X1 X2 X3 X4 Y h => by
      have h9 : Holds e w' (pts bx (.cells #[.int .i64 n, .int .i64 ob, .int .i64 ln] 51 (0, 0)) :: _) := h.imp fun _ s => (Take.there _ (Take.there _ (Take.there _ (Take.there _ (Take.there _ (Take.there _ (Take.there _ (Take.here _ _)))))))) _ s
      exact ⟨h.p2.cells 2, by rw [h.p2.cells, poolA_hi, List.getElem?_map, hbb]; rfl, (HPC.out _ _ h.p3).1, h9.cells 0⟩
  have HC : Hid (∀ w' X, Holds e w' (pgH pb g :: X) → Calls Tryz.prog 47 #[.pointer (some ⟨pb, 0, none⟩)] w' (Ret e (.int .i64 g.cls) (pgH pb g :: X))) := Lib.hid fun w' X h => retQ (pgClass h) h
  have HC2 : Hid (∀ w' Y X, Holds e w' (Y :: pgH pb g :: X) → Calls Tryz.prog 47 #[.pointer (some ⟨pb, 0, none⟩)] w' (Ret e (.int .i64 g.cls) (Y :: pgH pb g :: X))) := Lib.hid fun w' Y X h => (retQ (pgClass h.swap) h.swap).mono fun en w'' ⟨r1, r2⟩ => ⟨r1, r2.swap⟩
  have HB := Lib.hid fun (w' : World) (Y : List HP) (h : Holds e w' (pgH pb g :: grpB bb (S.bks g.cls) :: pts b (poolO tb rb (.slice (some ⟨p0, o0, none⟩) E.length c) (bs.map ptrV)) :: row (.slice (some ⟨p0, o0, none⟩) E.length c) 90 1 E.length (E.map ptrE) :: pts tb S.tab.obj :: all pgE (E.eraseIdx n) :: all (bkH S.bks) (bs.zipIdx.eraseIdx g.cls) :: Y)) => pool_back (S := S) (tab := S.tab) (n := n) (g := g) (g' := g) hE hb hpb hbb h
  rw [set_same hn, updB_self] at HB
  have HBE : Hid (∀ w' vb X0 X, Holds e w' (row vb 3 1 1 [.int .i64 (n : Int)] :: X0 :: grpB bb (S.bks g.cls) :: X) → Calls Tryz.prog 53 #[.pointer (some ⟨bb, 0, none⟩), vb] w' (Ret e (.tuple #[.int .i64 0, .bool false]) (row vb 3 1 1 [.int .i64 (n : Int)] :: X0 :: grpB bb (S.bks g.cls) :: X))) :=
    Lib.hid fun w' vb X0 X h => by
      have h1 := gBest (vb := vb) (bs := [(n : Int)]) h.p2 (by simp) hok
      rw [hbest] at h1
      exact h1.mono fun en w'' ⟨r1, r2⟩ => ⟨r1, r2.q2⟩
  clear HPC hE hb hpb hbb hn hc hok hbest H2
  generalize hcl : g.cls = cl at *
  generalize E.length = l at *
  generalize S.bks cl = B at *
  clear hcl
  go_wp2_with fail
  refine code_at h fun w5 h5 => ?_
  clear hbx h
  obtain ⟨j2, j1, j3, j4⟩ := HK.out _ _ _ _ _ _ _ h5
  go_wp2_with fail
  go_region
  go_wp2_with fail
  refine code_at h5.drew fun w6 h6 => ?_
  clear h5 j1 j2 j3 j4
  obtain ⟨j2, j1, j3, j4⟩ := HK.out _ _ _ _ _ _ _ h6
  have HD := h6.drawn (w6.drawn + 1)
  first | go_region_held3 (fun w' => w'.cell? ⟨b, 3 + cl, none⟩ = some (.pointer (some ⟨bb, 0, none⟩)) ∧ w'.cell? ⟨bx, 0, none⟩ = some (.int .i64 n))
    (first | exact ⟨(HK.out _ _ _ _ _ _ _ (by assumption)).2.1, (HK.out _ _ _ _ _ _ _ (by assumption)).2.2.2⟩ | exact ⟨(HK.out _ _ _ _ _ _ _ (Holds.drop (Holds.alloc (by assumption) _))).2.1, (HK.out _ _ _ _ _ _ _ (Holds.drop (Holds.alloc (by assumption) _))).2.2.2⟩ | exact ⟨(HK.out _ _ _ _ _ _ _ (Holds.drop (by assumption))).2.1, (HK.out _ _ _ _ _ _ _ (Holds.drop (by assumption))).2.2.2⟩)
    (first
      | (go_at_call 47; refine (HC.out _ _ (by assumption)).mono ?_; rintro e w4 ⟨rfl, HN⟩)
      | (go_at_call 47; refine (HC2.out _ _ _ (row_one (by assumption) _)).mono ?_; rintro e w4 ⟨rfl, HN⟩)
      | (go_at_call 53; refine (HBE.out _ _ _ _ (row_one (by assumption) _)).mono ?_; rintro e w4 ⟨rfl, HN⟩)
      | (go_at_call 53; refine (HBE.out _ _ _ _ (by assumption)).mono ?_; rintro e w4 ⟨rfl, HN⟩)) | fail
  all_goals
    have HN2 := Lib.hid (HB.out _ _ HN.drop).d1
    clear HB HK HC HC2 HBE HN h6 HD
    go_wp2_with fail
    go_ret
    exact ⟨rfl, HN2.out⟩
end
end Go.Proofs.YtheblkofemobdaaGreat

/-
  Package pool: the pool with its zspages' pointers told, for Shift, which keeps one over calls.
-/
namespace Go.Proofs.YtheblkofemobdaaGreat
open Go.RowKit

def pptr (x : PE) : Option Nat := x.map (·.1)
def EP (ps : List (Option Nat)) (E : List PE) (pgs : List (Option PgS)) : Prop := E.map peG = pgs ∧ E.map pptr = ps
def poolPB (ps : List (Option Nat)) (b tb rb : Nat) (S : PoolS) (q : PQ) : HP := grp [pur (EP ps q.E S.pgs ∧ q.bs.length = 64), pts b (poolO tb rb q.v (q.bs.map ptrV)), pts tb S.tab.obj, row q.v 90 1 q.E.length (q.E.map ptrE), all pgE q.E, all (bkH S.bks) q.bs.zipIdx]
def poolP (ps : List (Option Nat)) (b tb rb : Nat) (S : PoolS) : HP := exh (poolPB ps b tb rb S)
section
variable {e : Env} {w : World} {R A : List HP} {b tb rb : Nat} {S : PoolS} {M : RamS} {ps : List (Option Nat)}
theorem poolP_open (H : Holds e w (poolP ps b tb rb S :: R)) : ∃ (a : Option Addr) (c : Nat) (bs : List Nat) (E : List PE), EP ps E S.pgs ∧ bs.length = 64 ∧
    Holds e w (pts b (poolO tb rb (.slice a E.length c) (bs.map ptrV)) :: pts tb S.tab.obj :: row (.slice a E.length c) 90 1 E.length (E.map ptrE) :: all pgE E :: all (bkH S.bks) bs.zipIdx :: R) := by
  obtain ⟨⟨v, bs, E⟩, h⟩ := Holds.exE H
  have h2 := h.ungrp
  obtain ⟨h3, h4⟩ := h2.purE
  have h5 : Holds e w (_ :: _ :: row v 90 1 E.length (E.map ptrE) :: _) := h2.drop
  obtain ⟨a, c, rfl⟩ := row_shape h5.p2
  exact ⟨a, c, bs, E, h3, h4, h5⟩
theorem poolP_close {v : Value} {bs : List Nat} {E : List PE} (hE : EP ps E S.pgs) (hb : bs.length = 64)
    (H : Holds e w (pts b (poolO tb rb v (bs.map ptrV)) :: pts tb S.tab.obj :: row v 90 1 E.length (E.map ptrE) :: all pgE E :: all (bkH S.bks) bs.zipIdx :: R)) : Holds e w (poolP ps b tb rb S :: R) :=
  Holds.mkExh ⟨v, bs, E⟩ (Holds.mkGrp (L := [_, _, _, _, _, _]) (Holds.mkPur ⟨hE, hb⟩ H))
theorem poolP_of (H : Holds e w (poolH b tb rb S :: R)) : ∃ ps, Holds e w (poolP ps b tb rb S :: R) := by
  obtain ⟨a, c, bs, E, hE, hb, h⟩ := pool_open H
  exact ⟨_, poolP_close ⟨hE, rfl⟩ hb h⟩
theorem poolP_to (H : Holds e w (poolP ps b tb rb S :: R)) : Holds e w (poolH b tb rb S :: R) := by
  obtain ⟨a, c, bs, E, hE, hb, h⟩ := poolP_open H
  exact pool_close hE.1 hb h
theorem E_pp {E : List PE} {n pb : Nat} {g g' : PgS} (h : E[n]? = some (some (pb, g))) : (E.set n (some (pb, g'))).map pptr = E.map pptr := by
  rw [List.map_set]
  apply List.ext_getElem?
  intro i
  rw [List.getElem?_set]
  split
  · next hi => subst hi; rw [List.getElem?_map, h]; simp [pptr, (List.getElem?_eq_some_iff.1 h).1]
  · rfl
theorem EP.ptr {E : List PE} {pgs : List (Option PgS)} {n pb : Nat} {g : PgS} (hE : EP ps E pgs) (h : E[n]? = some (some (pb, g))) : ps[n]? = some (some pb) := by
  rw [← hE.2, List.getElem?_map, h]; rfl
/-- A page and its class's book in hand. -/
theorem poolP_at (H : Holds e w (poolP ps b tb rb S :: R)) {n : Nat} {g : PgS} (hn : S.pgs[n]? = some (some g)) {cl : Nat} (hc : cl < 64) :
    ∃ (p0 o0 c : Nat) (bs : List Nat) (E : List PE) (pb bb : Nat), EP ps E S.pgs ∧ bs.length = 64 ∧ E[n]? = some (some (pb, g)) ∧ bs[cl]? = some bb ∧
      (∀ w' X, Holds e w' (row (.slice (some ⟨p0, o0, none⟩) E.length c) 90 1 E.length (E.map ptrE) :: X) → w'.cell? ⟨p0, o0 + n, none⟩ = some (ptrV pb) ∧ w'.frozen? ⟨p0, o0 + n, none⟩ = false) ∧
      Holds e w (pgH pb g :: grpB bb (S.bks cl) :: pts b (poolO tb rb (.slice (some ⟨p0, o0, none⟩) E.length c) (bs.map ptrV)) :: row (.slice (some ⟨p0, o0, none⟩) E.length c) 90 1 E.length (E.map ptrE) :: pts tb S.tab.obj :: all pgE (E.eraseIdx n) :: all (bkH S.bks) (bs.zipIdx.eraseIdx cl) :: R) := by
  obtain ⟨a, c, bs, E, hE, hb, h⟩ := poolP_open H
  obtain ⟨pb, hpb⟩ := E_get hE.1 hn
  obtain ⟨bb, hbb⟩ : ∃ bb, bs[cl]? = some bb := ⟨_, List.getElem?_eq_getElem (by omega)⟩
  have hlen : n < E.length := (List.getElem?_eq_some_iff.1 hpb).1
  obtain ⟨p0, o0, rfl, _⟩ := (row.reads h.p2).at (by omega)
  refine ⟨p0, o0, c, bs, E, pb, bb, hE, hb, hpb, hbb, fun w' X h' => ?_, ?_⟩
  · have hcl : w'.cell? ⟨p0, o0 + n, none⟩ = some (ptrV pb) := by
      obtain ⟨p1, o1, h7, hel⟩ := (row.reads h').at (by omega)
      cases h7
      exact hel n _ (by rw [List.getElem?_map, hpb]; rfl)
    refine ⟨hcl, ?_⟩
    rcases (row.open h').2 with ⟨h0, _⟩ | ⟨g1, cap, cur, h0, _, _, _, _, h5⟩
    · cases h0
    · cases h0; exact h5.frozen _
  · have h2 := bk_focus hbb h.p4
    have h3 : Holds e w (all pgE E :: grpB bb (S.bks cl) :: all (bkH S.bks) (bs.zipIdx.eraseIdx cl) :: pts b (poolO tb rb (.slice (some ⟨p0, o0, none⟩) E.length c) (bs.map ptrV)) :: pts tb S.tab.obj :: row (.slice (some ⟨p0, o0, none⟩) E.length c) 90 1 E.length (E.map ptrE) :: R) := h2.p5
    have h4 := Holds.focus (f := pgE) hpb h3
    have h5 : Holds e w (pgH pb g :: all pgE (E.eraseIdx n) :: grpB bb (S.bks cl) :: all (bkH S.bks) (bs.zipIdx.eraseIdx cl) :: pts b (poolO tb rb (.slice (some ⟨p0, o0, none⟩) E.length c) (bs.map ptrV)) :: pts tb S.tab.obj :: row (.slice (some ⟨p0, o0, none⟩) E.length c) 90 1 E.length (E.map ptrE) :: R) := h4
    refine h5.cons fun _ s => ?_
    -- from: pages, book, books, pool, table, row; to: book, pool, row, table, pages, books
    refine Sat.cons (fun _ s => ?_) (Sat.q1 s)
    -- pages, books, pool, table, row -> pool, row, table, pages, books
    have s1 := (Take.there _ (Take.there _ (Take.here _ _))) _ s
    refine Sat.cons (fun _ s => ?_) s1
    have s2 := (Take.there _ (Take.there _ (Take.there _ (Take.here _ _)))) _ s
    refine Sat.cons (fun _ s => ?_) s2
    exact (Take.there _ (Take.there _ (Take.here _ _))) _ s
theorem poolP_back {n : Nat} {g g' : PgS} {cl : Nat} {v : Value} {bs : List Nat} {E : List PE} {pb bb : Nat} {B : Bk} {tab : TabS} (hE : EP ps E S.pgs) (hb : bs.length = 64) (hpb : E[n]? = some (some (pb, g))) (hbb : bs[cl]? = some bb)
    (H : Holds e w (pgH pb g' :: grpB bb B :: pts b (poolO tb rb v (bs.map ptrV)) :: row v 90 1 E.length (E.map ptrE) :: pts tb tab.obj :: all pgE (E.eraseIdx n) :: all (bkH S.bks) (bs.zipIdx.eraseIdx cl) :: R)) :
    Holds e w (poolP ps b tb rb ⟨tab, S.pgs.set n (some g'), updB S.bks cl B⟩ :: R) := by
  have hlen : n < E.length := (List.getElem?_eq_some_iff.1 hpb).1
  have h1 : Holds e w (pgH pb g' :: all pgE (E.eraseIdx n) :: grpB bb B :: pts b (poolO tb rb v (bs.map ptrV)) :: row v 90 1 E.length (E.map ptrE) :: pts tb tab.obj :: all (bkH S.bks) (bs.zipIdx.eraseIdx cl) :: R) := H.p5.swap
  have h2 := Holds.unfocus (f := pgE) (y := some (pb, g')) hlen h1
  have h3 : Holds e w (grpB bb B :: all (bkH S.bks) (bs.zipIdx.eraseIdx cl) :: all pgE (E.set n (some (pb, g'))) :: pts b (poolO tb rb v (bs.map ptrV)) :: row v 90 1 E.length (E.map ptrE) :: pts tb tab.obj :: R) := h2.p5.p2
  have h4 := bk_unfocus hbb h3
  refine poolP_close (S := ⟨tab, S.pgs.set n (some g'), updB S.bks cl B⟩) (E := E.set n (some (pb, g'))) (v := v) (bs := bs) ⟨by rw [List.map_set, hE.1]; rfl, by rw [E_pp hpb, hE.2]⟩ hb ?_
  rw [E_ptr hpb, List.length_set]
  -- books, pages, pool, row, table -> pool, table, row, pages, books
  exact h4.p3.p4.p4.imp fun _ s => Sat.cons (fun _ s => Sat.cons (fun _ s => Sat.cons (fun _ s => Sat.q1 s) s) s) s
set_option maxRecDepth 100000 in
set_option maxHeartbeats 1000000 in
theorem poNoteP_used (H : Holds e w (poolP ps b tb rb S :: R)) {n : Nat} {g : PgS} (hn : S.pgs[n]? = some (some g)) (h4 : n ≤ 4095) (hc : g.cls < 64) (hu : 0 < cnt g.set) :
    Calls Tryz.prog 46 #[.pointer (some ⟨b, 0, none⟩), .int .i64 n] w
      (Ret e (.tuple #[]) (poolP ps b tb rb ⟨S.tab, S.pgs, updB S.bks g.cls (bput (S.bks g.cls) n (cnt g.set, g.set.length))⟩ :: R)) := by
  obtain ⟨p0, o0, c, bs, E, pb, bb, hE, hb, hpb, hbb, HPC, h⟩ := poolP_at H hn hc
  have hcl := cnt_le g.set
  have hi0 : (0 : Int) ≤ (g.cls : Int) := by omega
  have hi1 : (g.cls : Int) < 64 := by omega
  have hlen : n < E.length := (List.getElem?_eq_some_iff.1 hpb).1
  have HU : Hid (∀ w' X, Holds e w' (pgH pb g :: X) → Calls Tryz.prog 48 #[.pointer (some ⟨pb, 0, none⟩)] w' (Ret e (.int .i64 (cnt g.set)) (pgH pb g :: X))) := Lib.hid fun w' X h => retQ (pgUsed h) h
  have HM : Hid (∀ w' X, Holds e w' (pgH pb g :: X) → Calls Tryz.prog 49 #[.pointer (some ⟨pb, 0, none⟩)] w' (Ret e (.int .i64 g.set.length) (pgH pb g :: X))) := Lib.hid fun w' X h => retQ (pgMany h) h
  have HC : Hid (∀ w' X, Holds e w' (pgH pb g :: X) → Calls Tryz.prog 47 #[.pointer (some ⟨pb, 0, none⟩)] w' (Ret e (.int .i64 g.cls) (pgH pb g :: X))) := Lib.hid fun w' X h => retQ (pgClass h) h
  have HPUT : Hid (∀ w' X, Holds e w' (pgH pb g :: grpB bb (S.bks g.cls) :: X) → Calls Tryz.prog 79 #[.pointer (some ⟨bb, 0, none⟩), .int .i64 n, .int .i64 (cnt g.set), .int .i64 g.set.length] w' (Ret e (.bool true) (pgH pb g :: grpB bb (bput (S.bks g.cls) n (cnt g.set, g.set.length)) :: X))) :=
    Lib.hid fun w' X h => (gPut h.swap h4 hcl).mono fun en w'' ⟨h1, h2⟩ => ⟨h1, h2.swap⟩
  have HK : Hid (∀ w' X0 X1 X, Holds e w' (X0 :: X1 :: pts b (poolO tb rb (.slice (some ⟨p0, o0, none⟩) E.length c) (bs.map ptrV)) :: X) → w'.cell? ⟨b, 3 + g.cls, none⟩ = some (.pointer (some ⟨bb, 0, none⟩))) :=
    Lib.hid fun w' X0 X1 X h => by rw [h.p2.cells, poolA_hi, List.getElem?_map, hbb]; rfl
  have k1 := HK.out _ _ _ _ h
  have k2 : w.cell? ⟨b, 2, none⟩ = some (.slice (some ⟨p0, o0, none⟩) E.length c) := h.p2.cells 2
  have k3 : w.cell? ⟨p0, o0 + n, none⟩ = some (.pointer (some ⟨pb, 0, none⟩)) := (HPC _ _ h.p3).1
  have HB := Lib.hid fun (w' : World) (h : Holds e w' (pgH pb g :: grpB bb (bput (S.bks g.cls) n (cnt g.set, g.set.length)) :: pts b (poolO tb rb (.slice (some ⟨p0, o0, none⟩) E.length c) (bs.map ptrV)) :: row (.slice (some ⟨p0, o0, none⟩) E.length c) 90 1 E.length (E.map ptrE) :: pts tb S.tab.obj :: all pgE (E.eraseIdx n) :: all (bkH S.bks) (bs.zipIdx.eraseIdx g.cls) :: R)) => poolP_back (S := S) (tab := S.tab) (n := n) (g := g) hE hb hpb hbb h
  rw [set_same hn] at HB
  clear hE hb hpb hbb HPC H
  generalize hN : cnt g.set = u at *
  generalize g.set.length = m at *
  go_enter Tryz.func46, Tryz.ntmps46
  go_wp2_with fail
  refine (HU.out _ _ h).mono ?_
  rintro en w1 ⟨rfl, H1⟩
  have HD := H1.drawn (w1.drawn + 1)
  have k4 := HK.out _ _ _ _ H1
  clear h k1 k2 k3 hN
  go_wp2_with fail
  first | go_region_held3 (fun w' => w'.cell? ⟨b, 3 + g.cls, none⟩ = some (.pointer (some ⟨bb, 0, none⟩)))
    (exact HK.out _ _ _ _ (by assumption))
    (first
      | (go_at_call 47; refine (HC.out _ _ (by assumption)).mono ?_; rintro e w4 ⟨rfl, HN⟩)
      | (go_at_call 48; refine (HU.out _ _ (by assumption)).mono ?_; rintro e w4 ⟨rfl, HN⟩)
      | (go_at_call 49; refine (HM.out _ _ (by assumption)).mono ?_; rintro e w4 ⟨rfl, HN⟩)
      | (go_at_call 79; refine (HPUT.out _ _ (by assumption)).mono ?_; rintro e w4 ⟨rfl, HN⟩)) | fail
  all_goals
    go_wp2_with fail
    refine bodyPost_ret (results_none rfl _ _ _) rfl ?_
    exact ⟨rfl, HB.out _ HN⟩

set_option maxRecDepth 100000 in
set_option maxHeartbeats 1000000 in
theorem poPutP (H : Holds e w (poolP ps b tb rb S :: ramH rb M :: R)) {n k : Nat} {g : PgS} {L : List Nat} (hn : S.pgs[n]? = some (some g)) (h4 : n ≤ 4095) (hI : PgInv M g (k :: L)) (vd : Value) (d : List UInt8) (hd : ∀ w', Holds e w' R → RdB w' vd d) (hm : d.length ≤ csz g.cls) :
    Calls Tryz.prog 43 #[.pointer (some ⟨b, 0, none⟩), .int .i64 n, vd] w
      (Ret e (PlaceS.val ⟨n, k, d.length⟩) (poolP ps b tb rb ⟨S.tab, S.pgs.set n (some (putPg M g k d).2), updB S.bks g.cls (bput (S.bks g.cls) n (cnt (putPg M g k d).2.set, (putPg M g k d).2.set.length))⟩ :: ramH rb (putPg M g k d).1 :: R)) := by
  have hc := hI.ok.cls
  obtain ⟨hf, hk, hx⟩ := hI.takeHead
  have hs := hI.ok.set256
  have hI2 := hI.take (csz g.cls * k + 0) 2 hI.next
  have hM2 : d.length ≤ csz g.cls := hm
  obtain ⟨va, vc, rfl⟩ := (hd _ H.drop.drop).shape
  have hcn := cnt_set hk true
  rw [hx, if_neg (by decide), if_pos rfl] at hcn
  have hdl : d.length ≤ 4096 := by unfold csz at hm; omega
  have H1 := H.alloc (.cells #[.int .i64 0, .int .i64 0, .int .i64 0] 51)
  obtain ⟨bx, hbx⟩ : ∃ bx, w.heap.size = bx := ⟨_, rfl⟩
  rw [hbx] at H1
  have H2 := H1.q2
  obtain ⟨p0, o0, c, bs, E, pb, bb, hE, hb, hpb, hbb, HPC, h⟩ := poolP_at H2 hn hc
  have hlen : n < E.length := (List.getElem?_eq_some_iff.1 hpb).1
  have HT : Hid (∀ w' X0 X1 X2 X3 X4 X5 Y, Holds e w' (pgH pb g :: X0 :: X1 :: X2 :: X3 :: X4 :: X5 :: ramH rb M :: Y) → Calls Tryz.prog 74 #[.pointer (some ⟨pb, 0, none⟩), .pointer (some ⟨rb, 0, none⟩)] w'
      (Ret e (.tuple #[.int .i64 k, .bool true]) (pgH pb (putPg M g k d).2 :: X0 :: X1 :: X2 :: X3 :: X4 :: X5 :: ramH rb (M.tk (csz g.cls * k + 0) 2) :: Y))) :=
    Lib.hid fun w' X0 X1 X2 X3 X4 X5 Y h' => (pgTake_yes h'.p7.swap hI.ok hf hk hx).mono fun en w'' ⟨h1, h2⟩ => ⟨h1, h2.swap.q7⟩
  have HW : Hid (∀ w' X0 X1 X2 X3 X4 X5, Holds e w' (pgH pb (putPg M g k d).2 :: X0 :: X1 :: X2 :: X3 :: X4 :: X5 :: ramH rb (M.tk (csz g.cls * k + 0) 2) :: pts bx (.cells #[.int .i64 0, .int .i64 0, .int .i64 0] 51 (0, 0)) :: R) → Calls Tryz.prog 75 #[.pointer (some ⟨pb, 0, none⟩), .pointer (some ⟨rb, 0, none⟩), .int .i64 k, .slice va d.length vc] w'
      (Ret e (.bool true) (pgH pb (putPg M g k d).2 :: X0 :: X1 :: X2 :: X3 :: X4 :: X5 :: ramH rb (putPg M g k d).1 :: pts bx (.cells #[.int .i64 0, .int .i64 0, .int .i64 0] 51 (0, 0)) :: R))) :=
    Lib.hid fun w' X0 X1 X2 X3 X4 X5 h' => (pgWrite_yes (g := (putPg M g k d).2) h'.p7.swap hI2.ok (n := k) (by unfold putPg; simpa using hk) (by unfold putPg; dsimp only; rw [getD_set hk, if_pos rfl]) _ d (fun w'' h'' => hd _ h''.drop.drop.drop.drop.drop.drop.drop) hM2).mono fun en w'' ⟨h1, h2⟩ => ⟨h1, h2.swap.q7⟩
  have HB := Lib.hid fun (w' : World) (g' : PgS) (Y : List HP) (h : Holds e w' (pgH pb g' :: grpB bb (S.bks g.cls) :: pts b (poolO tb rb (.slice (some ⟨p0, o0, none⟩) E.length c) (bs.map ptrV)) :: row (.slice (some ⟨p0, o0, none⟩) E.length c) 90 1 E.length (E.map ptrE) :: pts tb S.tab.obj :: all pgE (E.eraseIdx n) :: all (bkH S.bks) (bs.zipIdx.eraseIdx g.cls) :: Y)) => poolP_back (S := S) (tab := S.tab) (n := n) (g := g) hE hb hpb hbb h
  rw [updB_self] at HB
  have HNT : Hid (∀ w' Y, Holds e w' (poolP ps b tb rb ⟨S.tab, S.pgs.set n (some (putPg M g k d).2), S.bks⟩ :: Y) → Calls Tryz.prog 46 #[.pointer (some ⟨b, 0, none⟩), .int .i64 n] w' (Ret e (.tuple #[]) (poolP ps b tb rb ⟨S.tab, S.pgs.set n (some (putPg M g k d).2), updB S.bks g.cls (bput (S.bks g.cls) n (cnt (putPg M g k d).2.set, (putPg M g k d).2.set.length))⟩ :: Y))) :=
    Lib.hid fun w' Y h' => poNoteP_used (g := (putPg M g k d).2) h' (by dsimp only; rw [List.getElem?_set, if_pos rfl, if_pos (List.getElem?_eq_some_iff.1 hn).1]) h4 hc (by unfold putPg; dsimp only; omega)
  have HPC := Lib.hid HPC
  have k2 : (w.alloc (.cells #[.int .i64 0, .int .i64 0, .int .i64 0] 51)).cell? ⟨b, 2, none⟩ = some (.slice (some ⟨p0, o0, none⟩) E.length c) := h.p2.cells 2
  have k1 : (w.alloc (.cells #[.int .i64 0, .int .i64 0, .int .i64 0] 51)).cell? ⟨b, 1, none⟩ = some (.pointer (some ⟨rb, 0, none⟩)) := h.p2.cells 1
  have k3 : (w.alloc (.cells #[.int .i64 0, .int .i64 0, .int .i64 0] 51)).cell? ⟨p0, o0 + n, none⟩ = some (.pointer (some ⟨pb, 0, none⟩)) := (HPC.out _ _ h.p3).1
  clear H H1 H2 hE hb hpb hbb hI hI2 hd hn hcn hx hM2 hm hf
  generalize putPg M g k d = P at *
  obtain ⟨M', g'⟩ := P
  dsimp only at *
  generalize M.tk (csz g.cls * k + 0) 2 = M1 at *
  go_enter Tryz.func43, Tryz.ntmps43
  go_wp2_with fail
  refine (HT.out _ _ _ _ _ _ _ _ h).mono ?_
  rintro en w1 ⟨rfl, H3⟩
  have k4 : w1.cell? ⟨b, 1, none⟩ = some (.pointer (some ⟨rb, 0, none⟩)) := H3.p2.cells 1
  clear h k1 k2 k3 HT HPC
  go_wp2_with fail
  refine (HW.out _ _ _ _ _ _ _ H3).mono ?_
  rintro en w2 ⟨rfl, H4⟩
  have H5 := HB.out _ _ _ H4
  clear H3 k4 HW H4 HB
  go_wp2_with fail
  refine (HNT.out _ _ H5).mono ?_
  rintro en w3 ⟨rfl, H6⟩
  have H7 := H6.p2
  have hc7 := H7.cells
  have hf7 := H7.frozen
  clear H5 HNT H6
  rw [hbx] at *
  go_wp2_with fail
  refine bodyPost_at (((H7.set 0 _).set 1 _).set 2 _) fun w9 H9 => ?_
  have hc9 := H9.cells
  exact bodyPost_ret (v := PlaceS.val ⟨n, k, d.length⟩) (by simp [results, Tryz.results43, go_sem, PlaceS.val, hc9]) rfl ⟨rfl, H9.drop⟩
theorem poolP_tab (H : Holds e w (poolP ps b tb rb S :: R)) : w.cell? ⟨b, 0, none⟩ = some (.pointer (some ⟨tb, 0, none⟩)) ∧ w.cell? ⟨b, 1, none⟩ = some (.pointer (some ⟨rb, 0, none⟩)) ∧
    ∃ X : HP, Holds e w (pts tb S.tab.obj :: X :: R) ∧ ∀ w' tab, Holds e w' (pts tb (TabS.obj tab) :: X :: R) → Holds e w' (poolP ps b tb rb ⟨tab, S.pgs, S.bks⟩ :: R) := by
  obtain ⟨a, c, bs, E, hE, hb, h⟩ := poolP_open H
  refine ⟨h.cells 0, h.cells 1, grp [pts b (poolO tb rb (.slice a E.length c) (bs.map ptrV)), row (.slice a E.length c) 90 1 E.length (E.map ptrE), all pgE E, all (bkH S.bks) bs.zipIdx], ?_, fun w' tab h' => ?_⟩
  · exact h.swap.cons fun _ s => Sat.append.1 s
  · have h2 : Holds e w' (pts tb (TabS.obj tab) :: pts b (poolO tb rb (.slice a E.length c) (bs.map ptrV)) :: row (.slice a E.length c) 90 1 E.length (E.map ptrE) :: all pgE E :: all (bkH S.bks) bs.zipIdx :: R) := h'.cons fun _ s => Sat.append.2 s
    exact poolP_close (S := ⟨tab, S.pgs, S.bks⟩) hE hb h2.swap
end
end Go.Proofs.YtheblkofemobdaaGreat

/-
  Package pool: Shift to another zspage.
-/
namespace Go.Proofs.YtheblkofemobdaaGreat
open Go.RowKit

/-- What Shift makes of RAM and pool, ahead of the last note. -/
def shiftM (M : RamS) (g g2 : PgS) (ob ln k : Nat) : RamS × PgS := putPg (M.tk (csz g.cls * ob + 0) ln) g2 k (obj M g ob ln)
def shiftS (M : RamS) (S : PoolS) (g g2 : PgS) (x : Int) (n ob ln m k : Nat) : RamS × PoolS :=
  let P := shiftM M g g2 ob ln k
  let Q := givePg P.1 g ob
  (Q.1, ⟨(S.tab.set x ⟨m, k, ln⟩).2, (S.pgs.set m (some P.2)).set n (some Q.2), updB S.bks g2.cls (bput (S.bks g2.cls) m (cnt P.2.set, P.2.set.length))⟩)
section
variable {e : Env} {w : World} {R A : List HP} {b tb rb : Nat} {S : PoolS} {M : RamS}
theorem obj_len (hO : RamOk M) {g : PgS} (h : PgOk M g) {n m : Nat} (hn : n < g.set.length) (hm : m ≤ csz g.cls) : (obj M g n m).length = m := obj_length hO h hn hm
set_option maxRecDepth 100000 in
set_option maxHeartbeats 2000000 in
theorem poShift_move (H : Holds e w (poolH b tb rb S :: ramH rb M :: R)) {x : Int} {n ob ln m k : Nat} {g g2 : PgS} {L : List Nat} (hx : S.tab.get x = (⟨n, ob, ln⟩, true)) (hn : S.pgs[n]? = some (some g)) (hO : PgOk M g) (hob : ob < g.set.length) (hbit : g.set.getD ob false = true) (hln : ln ≤ csz g.cls)
    (hok : BkOk (S.bks g.cls)) (hbest : bestB (S.bks g.cls) [(n : Int)] = some m) (hmn : m ≠ n) (hm : S.pgs[m]? = some (some g2)) (hm4 : m ≤ 4095) (hI2 : PgInv M g2 (k :: L)) (hg2 : g2.cls = g.cls) (hRM : RamOk M) (hgo : PgOk (shiftM M g g2 ob ln k).1 g) {F : List HP}
    (hnote : ∀ w' Y, Holds e w' (poolH b tb rb (shiftS M S g g2 x n ob ln m k).2 :: ramH rb (shiftS M S g g2 x n ob ln m k).1 :: Y) → Calls Tryz.prog 46 #[.pointer (some ⟨b, 0, none⟩), .int .i64 n] w' (Ret e (.tuple #[]) (grp F :: Y))) :
    Calls Tryz.prog 21 #[.pointer (some ⟨b, 0, none⟩), .int .i64 x] w (Ret e (.bool true) (grp F :: R)) := by
  have CW := poWhere H x
  rw [hx] at CW
  unfold PlaceS.val at CW
  dsimp only at CW
  have CW := Lib.hid CW
  have hc := hO.cls
  have hdl : (obj M g ob ln).length = ln := obj_len hRM hO hob hln
  clear H hx
  go_enter Tryz.func21, Tryz.ntmps21
  go_wp2_with fail
  refine CW.out.mono ?_
  rintro en w1 ⟨rfl, H1⟩
  clear CW
  have H2 := H1.alloc (.cells #[.int .i64 n, .int .i64 ob, .int .i64 ln] 51)
  obtain ⟨bx, hbx⟩ : ∃ bx, w1.heap.size = bx := ⟨_, rfl⟩
  rw [hbx] at H2
  clear H1
  obtain ⟨ps, H2⟩ := poolP_of H2.swap
  obtain ⟨p0, o0, c, bs, E, pb, bb, hE, hb, hpb, hbb, HPC, h⟩ := poolP_at H2 hn hc
  have HPS := Lib.hid (hE.ptr hpb)
  have hlen : n < E.length := (List.getElem?_eq_some_iff.1 hpb).1
  have hlni : (n : Int) < E.length := by omega
  have hi0 : (0 : Int) ≤ (g.cls : Int) := by omega
  have hi1 : (g.cls : Int) < 64 := by omega
  have HPC := Lib.hid HPC
  have HK : Hid (∀ w' X0 X1 X2 X3 X4 Y, Holds e w' (X0 :: X1 :: pts b (poolO tb rb (.slice (some ⟨p0, o0, none⟩) E.length c) (bs.map ptrV)) :: row (.slice (some ⟨p0, o0, none⟩) E.length c) 90 1 E.length (E.map ptrE) :: X2 :: X3 :: X4 :: pts bx (.cells #[.int .i64 n, .int .i64 ob, .int .i64 ln] 51 (0, 0)) :: Y) →
      w'.cell? ⟨b, 2, none⟩ = some (.slice (some ⟨p0, o0, none⟩) E.length c) ∧ w'.cell? ⟨b, 3 + g.cls, none⟩ = some (.pointer (some ⟨bb, 0, none⟩)) ∧ w'.cell? ⟨p0, o0 + n, none⟩ = some (.pointer (some ⟨pb, 0, none⟩)) ∧ w'.cell? ⟨bx, 0, none⟩ = some (.int .i64 n) ∧ w'.cell? ⟨bx, 1, none⟩ = some (.int .i64 ob) ∧ w'.cell? ⟨bx, 2, none⟩ = some (.int .i64 ln) ∧ w'.cell? ⟨b, 1, none⟩ = some (.pointer (some ⟨rb, 0, none⟩))) :=
    Lib.hid fun w' X0 X1 X2 X3 X4 Y h => by
      have h9 : Holds e w' (pts bx (.cells #[.int .i64 n, .int .i64 ob, .int .i64 ln] 51 (0, 0)) :: _) := h.imp fun _ s => (Take.there _ (Take.there _ (Take.there _ (Take.there _ (Take.there _ (Take.there _ (Take.there _ (Take.here _ _)))))))) _ s
      exact ⟨h.p2.cells 2, by rw [h.p2.cells, poolA_hi, List.getElem?_map, hbb]; rfl, (HPC.out _ _ h.p3).1, h9.cells 0, h9.cells 1, h9.cells 2, h.p2.cells 1⟩
  have HC : Hid (∀ w' X, Holds e w' (pgH pb g :: X) → Calls Tryz.prog 47 #[.pointer (some ⟨pb, 0, none⟩)] w' (Ret e (.int .i64 g.cls) (pgH pb g :: X))) := Lib.hid fun w' X h => retQ (pgClass h) h
  have HC2 : Hid (∀ w' Y X, Holds e w' (Y :: pgH pb g :: X) → Calls Tryz.prog 47 #[.pointer (some ⟨pb, 0, none⟩)] w' (Ret e (.int .i64 g.cls) (Y :: pgH pb g :: X))) := Lib.hid fun w' Y X h => (retQ (pgClass h.swap) h.swap).mono fun en w'' ⟨r1, r2⟩ => ⟨r1, r2.swap⟩
  have HB := Lib.hid fun (w' : World) (Y : List HP) (h : Holds e w' (pgH pb g :: grpB bb (S.bks g.cls) :: pts b (poolO tb rb (.slice (some ⟨p0, o0, none⟩) E.length c) (bs.map ptrV)) :: row (.slice (some ⟨p0, o0, none⟩) E.length c) 90 1 E.length (E.map ptrE) :: pts tb S.tab.obj :: all pgE (E.eraseIdx n) :: all (bkH S.bks) (bs.zipIdx.eraseIdx g.cls) :: Y)) => poolP_back (S := S) (tab := S.tab) (n := n) (g := g) (g' := g) hE hb hpb hbb h
  rw [set_same hn, updB_self] at HB
  have HBE : Hid (∀ w' vb X0 X, Holds e w' (row vb 3 1 1 [.int .i64 (n : Int)] :: X0 :: grpB bb (S.bks g.cls) :: X) → Calls Tryz.prog 53 #[.pointer (some ⟨bb, 0, none⟩), vb] w' (Ret e (.tuple #[.int .i64 m, .bool true]) (row vb 3 1 1 [.int .i64 (n : Int)] :: X0 :: grpB bb (S.bks g.cls) :: X))) :=
    Lib.hid fun w' vb X0 X h => by
      have h1 := gBest (vb := vb) (bs := [(n : Int)]) h.p2 (by simp) hok
      rw [hbest] at h1
      exact h1.mono fun en w'' ⟨r1, r2⟩ => ⟨r1, r2.q2⟩
  have HRD : Hid (∀ w' X0 X1 X2 X3 X4 X5 X6 Y, Holds e w' (pgH pb g :: X0 :: X1 :: X2 :: X3 :: X4 :: X5 :: X6 :: ramH rb M :: Y) → Calls Tryz.prog 58 #[.pointer (some ⟨pb, 0, none⟩), .pointer (some ⟨rb, 0, none⟩), .int .i64 ob, .int .i64 ln] w'
      (RetEx e (fun v : Value => .tuple #[v, .bool true]) (fun v => bts v (obj M g ob ln) :: pgH pb g :: X0 :: X1 :: X2 :: X3 :: X4 :: X5 :: X6 :: ramH rb (M.tk (csz g.cls * ob + 0) ln) :: Y))) :=
    Lib.hid fun w' X0 X1 X2 X3 X4 X5 X6 Y h' => (pgRead_yes ((h'.imp fun _ s => (Take.there _ (Take.there _ (Take.there _ (Take.there _ (Take.there _ (Take.there _ (Take.there _ (Take.there _ (Take.here _ _))))))))) _ s).swap) hO hob hbit hln).mono fun en w'' ⟨v, h1, h2⟩ => ⟨v, h1, h2.cons fun _ s => Sat.cons (fun _ => Sat.q7) s⟩
  have HPT : Hid (∀ w' vd Y, (∀ w'', Holds e w'' Y → RdB w'' vd (obj M g ob ln)) → Holds e w' (poolP ps b tb rb S :: ramH rb (M.tk (csz g.cls * ob + 0) ln) :: Y) → Calls Tryz.prog 43 #[.pointer (some ⟨b, 0, none⟩), .int .i64 m, vd] w'
      (Ret e (PlaceS.val ⟨m, k, (obj M g ob ln).length⟩) (poolP ps b tb rb ⟨S.tab, S.pgs.set m (some (shiftM M g g2 ob ln k).2), updB S.bks g2.cls (bput (S.bks g2.cls) m (cnt (shiftM M g g2 ob ln k).2.set, (shiftM M g g2 ob ln k).2.set.length))⟩ :: ramH rb (shiftM M g g2 ob ln k).1 :: Y))) :=
    Lib.hid fun w' vd Y hd h' => poPutP h' hm hm4 (hI2.tk _ _) vd _ hd (by rw [hdl, hg2]; exact hln)
  rw [hdl] at HPT
  have HST : Hid (∀ w' P B X, Holds e w' (poolP ps b tb rb ⟨S.tab, P, B⟩ :: X) → Calls Tryz.prog 59 #[.pointer (some ⟨tb, 0, none⟩), .int .i64 x, PlaceS.val ⟨m, k, ln⟩] w' (Ret e (.bool (S.tab.set x ⟨m, k, ln⟩).1) (poolP ps b tb rb ⟨(S.tab.set x ⟨m, k, ln⟩).2, P, B⟩ :: X))) :=
    Lib.hid fun w' P B X h' => by
      obtain ⟨_, _, Y, h5, h6⟩ := poolP_tab h'
      exact (hset h5 x ⟨m, k, ln⟩).mono fun en w'' ⟨r1, r2⟩ => ⟨r1, h6 _ _ r2⟩
  have HT0 : Hid (∀ w' S' X, Holds e w' (poolP ps b tb rb S' :: X) → w'.cell? ⟨b, 0, none⟩ = some (.pointer (some ⟨tb, 0, none⟩))) := Lib.hid fun w' S' X h' => (poolP_tab h').1
  have HGV : Hid (∀ w' pb' X0 X1 X2 X3 X4 X5 X6 Y, Holds e w' (pgH pb' g :: X0 :: X1 :: X2 :: X3 :: X4 :: X5 :: X6 :: ramH rb (shiftM M g g2 ob ln k).1 :: Y) → Calls Tryz.prog 45 #[.pointer (some ⟨pb', 0, none⟩), .pointer (some ⟨rb, 0, none⟩), .int .i64 ob] w'
      (Ret e (.bool true) (pgH pb' (givePg (shiftM M g g2 ob ln k).1 g ob).2 :: X0 :: X1 :: X2 :: X3 :: X4 :: X5 :: X6 :: ramH rb (givePg (shiftM M g g2 ob ln k).1 g ob).1 :: Y))) :=
    Lib.hid fun w' pb' X0 X1 X2 X3 X4 X5 X6 Y h' => (pgGive_yes ((h'.imp fun _ s => (Take.there _ (Take.there _ (Take.there _ (Take.there _ (Take.there _ (Take.there _ (Take.there _ (Take.there _ (Take.here _ _))))))))) _ s).swap) hgo hob hbit).mono fun en w'' ⟨h1, h2⟩ => ⟨h1, h2.cons fun _ => Sat.q7⟩
  have HNT := Lib.hid hnote
  unfold shiftS at HNT
  dsimp only at HNT
  have HS2 : Hid ((S.pgs.set m (some (shiftM M g g2 ob ln k).2))[n]? = some (some g)) := Lib.hid (by rw [List.getElem?_set, if_neg hmn]; exact hn)
  clear hE hb hpb hbb HPC hn hok hbest hm hI2 hgo hnote H2 hdl hRM hO hbit hob
  generalize hd : obj M g ob ln = d at *
  generalize M.tk (csz g.cls * ob + 0) ln = M1 at *
  generalize hP : shiftM M g g2 ob ln k = P at *
  obtain ⟨M2, g2'⟩ := P
  dsimp only at *
  generalize hQ : givePg M2 g ob = Q at *
  obtain ⟨M3, g'⟩ := Q
  dsimp only at *
  generalize hts : S.tab.set x ⟨m, k, ln⟩ = ts at *
  obtain ⟨tok, tab'⟩ := ts
  dsimp only at *
  generalize S.pgs.set m (some g2') = pgs2 at *
  generalize updB S.bks g2.cls (bput (S.bks g2.cls) m (cnt g2'.set, g2'.set.length)) = bks2 at *
  clear hd hP hQ hts
  generalize E.length = l at *
  generalize hcl : g.cls = cl at *
  have HCL := Lib.hid hcl
  clear hcl
  generalize S.bks cl = B at *
  unfold PlaceS.val at HPT HST
  dsimp only at HPT HST
  go_wp2_with fail
  refine code_at h fun w5 h5 => ?_
  clear hbx h
  obtain ⟨j2, j1, j3, j4, j5, j6, j7⟩ := HK.out _ _ _ _ _ _ _ h5
  go_wp2_with fail
  go_region
  go_wp2_with fail
  refine code_at h5.drew fun w6 h6 => ?_
  clear h5 j1 j2 j3 j4 j5 j6 j7
  obtain ⟨j2, j1, j3, j4, j5, j6, j7⟩ := HK.out _ _ _ _ _ _ _ h6
  have HD := h6.drawn (w6.drawn + 1)
  first | go_region_held3 (fun w' => w'.cell? ⟨b, 3 + cl, none⟩ = some (.pointer (some ⟨bb, 0, none⟩)) ∧ w'.cell? ⟨bx, 0, none⟩ = some (.int .i64 n))
    (first | exact ⟨(HK.out _ _ _ _ _ _ _ (by assumption)).2.1, (HK.out _ _ _ _ _ _ _ (by assumption)).2.2.2.1⟩ | exact ⟨(HK.out _ _ _ _ _ _ _ (Holds.drop (Holds.alloc (by assumption) _))).2.1, (HK.out _ _ _ _ _ _ _ (Holds.drop (Holds.alloc (by assumption) _))).2.2.2.1⟩ | exact ⟨(HK.out _ _ _ _ _ _ _ (Holds.drop (by assumption))).2.1, (HK.out _ _ _ _ _ _ _ (Holds.drop (by assumption))).2.2.2.1⟩)
    (first
      | (go_at_call 47; refine (HC.out _ _ (by assumption)).mono ?_; rintro e w4 ⟨rfl, HN⟩)
      | (go_at_call 47; refine (HC2.out _ _ _ (row_one (by assumption) _)).mono ?_; rintro e w4 ⟨rfl, HN⟩)
      | (go_at_call 53; refine (HBE.out _ _ _ _ (row_one (by assumption) _)).mono ?_; rintro e w4 ⟨rfl, HN⟩)
      | (go_at_call 53; refine (HBE.out _ _ _ _ (by assumption)).mono ?_; rintro e w4 ⟨rfl, HN⟩)) | fail
  all_goals
    have h7 := HN.drop
    clear HC HC2 HBE HN h6 HD j1 j2 j3 j4 j5 j6 j7
    go_wp2_with fail
    obtain ⟨j2, j1, j3, j4, j5, j6, j7⟩ := HK.out _ _ _ _ _ _ _ h7
    have HD := h7.drawn (w4.drawn + 1)
    first | go_region_held3 (fun w' => w'.cell? ⟨b, 1, none⟩ = some (.pointer (some ⟨rb, 0, none⟩)) ∧ w'.cell? ⟨bx, 1, none⟩ = some (.int .i64 ob) ∧ w'.cell? ⟨bx, 2, none⟩ = some (.int .i64 ln))
      (first | exact ⟨(HK.out _ _ _ _ _ _ _ (by assumption)).2.2.2.2.2.2, (HK.out _ _ _ _ _ _ _ (by assumption)).2.2.2.2.1, (HK.out _ _ _ _ _ _ _ (by assumption)).2.2.2.2.2.1⟩ | exact ⟨(HK.out _ _ _ _ _ _ _ (Holds.drop (by assumption))).2.2.2.2.2.2, (HK.out _ _ _ _ _ _ _ (Holds.drop (by assumption))).2.2.2.2.1, (HK.out _ _ _ _ _ _ _ (Holds.drop (by assumption))).2.2.2.2.2.1⟩)
      (first
        | (go_at_call 58; refine (HRD.out _ _ _ _ _ _ _ _ _ (by assumption)).mono ?_; rintro e w8 ⟨v, rfl, HR⟩)) | fail
  all_goals
    have h8 := (HB.out _ _ HR.q7).cons (Take.there _ (Take.there _ (Take.here _ _)))
    have HPT2 := Lib.hid fun w' h => HPT.out w' v (bts v d :: pts bx (.cells #[.int .i64 n, .int .i64 ob, .int .i64 ln] 51 (0, 0)) :: R) (fun w'' h => bts.reads h) h
    clear HR HRD HK j1 j2 j3 j4 j5 j6 j7 h7 HD HB HPT
    go_wp2_with fail
    have k0 := HT0.out _ _ _ h8
    have HD := h8.drawn (w8.drawn + 1)
    first | go_region_held3 (fun w' => w'.cell? ⟨b, 0, none⟩ = some (.pointer (some ⟨tb, 0, none⟩)))
      (exact HT0.out _ _ _ (by assumption))
      (first
        | (go_at_call 43; refine (HPT2.out _ (by assumption)).mono ?_; rintro e w9 ⟨rfl, HN⟩)
        | (go_at_call 59; refine (HST.out _ _ _ _ (by assumption)).mono ?_; rintro e w9 ⟨rfl, HN⟩)) | fail
  all_goals
    have h9 : Holds e w9 (poolP ps b tb rb ⟨tab', pgs2, bks2⟩ :: pts bx (.cells #[.int .i64 n, .int .i64 ob, .int .i64 ln] 51 (0, 0)) :: ramH rb M2 :: bts v d :: R) := HN.cons (Take.there _ (Take.there _ (Take.here _ _)))
    clear HN h8 HPT2 HST HD k0 HT0
    obtain ⟨p1, o1, c1, bs1, E1, pb1, bb1, hE1, hb1, hpb1, hbb1, HPC1, h⟩ := poolP_at h9 HS2.out (HCL.out ▸ hc)
    obtain rfl : pb1 = pb := by have := hE1.ptr hpb1; rw [HPS.out] at this; cases this; rfl
    have HB2 : Hid (∀ (w' : World) (Y : List HP), Holds e w' (pgH pb1 g' :: grpB bb1 (bks2 g.cls) :: pts b (poolO tb rb (.slice (some ⟨p1, o1, none⟩) E1.length c1) (bs1.map ptrV)) :: row (.slice (some ⟨p1, o1, none⟩) E1.length c1) 90 1 E1.length (E1.map ptrE) :: pts tb tab'.obj :: all pgE (E1.eraseIdx n) :: all (bkH bks2) (bs1.zipIdx.eraseIdx g.cls) :: Y) → Holds e w' (poolH b tb rb ⟨tab', pgs2.set n (some g'), bks2⟩ :: Y)) := Lib.hid fun w' Y h => by
      have h1 := poolP_back (R := Y) (S := ⟨tab', pgs2, bks2⟩) (tab := tab') (n := n) (g := g) (g' := g') (B := bks2 g.cls) (cl := g.cls) hE1 hb1 hpb1 hbb1 h
      rw [updB_self] at h1
      exact poolP_to h1
    have HPC1 := Lib.hid HPC1
    dsimp only at h
    have HK : Hid (∀ w' X0 X1 X2 X3 X4 Y Z, Holds e w' (X0 :: X1 :: pts b (poolO tb rb (.slice (some ⟨p1, o1, none⟩) E1.length c1) (bs1.map ptrV)) :: X2 :: X3 :: X4 :: Y :: pts bx (.cells #[.int .i64 n, .int .i64 ob, .int .i64 ln] 51 (0, 0)) :: Z) →
        w'.cell? ⟨bx, 0, none⟩ = some (.int .i64 n) ∧ w'.cell? ⟨bx, 1, none⟩ = some (.int .i64 ob) ∧ w'.cell? ⟨b, 1, none⟩ = some (.pointer (some ⟨rb, 0, none⟩))) :=
      Lib.hid fun w' X0 X1 X2 X3 X4 Y Z h => by
        have h9 : Holds e w' (pts bx (.cells #[.int .i64 n, .int .i64 ob, .int .i64 ln] 51 (0, 0)) :: _) := h.imp fun _ s => (Take.there _ (Take.there _ (Take.there _ (Take.there _ (Take.there _ (Take.there _ (Take.there _ (Take.here _ _)))))))) _ s
        exact ⟨h9.cells 0, h9.cells 1, h.p2.cells 1⟩
    obtain ⟨j1, j2, j3⟩ := HK.out _ _ _ _ _ _ _ _ h
    have HD := h.drawn (w9.drawn + 1)
    clear hE1 hb1 hpb1 hbb1 HPS HS2 h9 HPC1
    go_wp2_with fail
    first | go_region_held3 (fun w' => w'.cell? ⟨bx, 1, none⟩ = some (.int .i64 ob) ∧ w'.cell? ⟨b, 1, none⟩ = some (.pointer (some ⟨rb, 0, none⟩)))
      (exact (HK.out _ _ _ _ _ _ _ _ (by assumption)).2)
      (first
        | (go_at_call 45; refine (HGV.out _ _ _ _ _ _ _ _ _ _ (by assumption)).mono ?_; rintro e w10 ⟨rfl, HN⟩)) | fail
  all_goals
    have hA := (HB2.out _ _ HN).cons fun _ => Sat.q1
    have j4 : w10.cell? ⟨bx, 0, none⟩ = some (.int .i64 n) := hA.p2.cells 0
    clear HN h HK HB2 HGV HD j1 j2 j3
    go_wp2_with fail
    refine (HNT.out _ _ hA).mono ?_
    rintro en w11 ⟨rfl, HF⟩
    clear hA j4 HNT
    go_wp2_with fail
    go_ret
    exact ⟨rfl, HF.d1.d1⟩
end
end Go.Proofs.YtheblkofemobdaaGreat

/-
  The pool's laws, as laws of states: sums, frames' counts, zspages in a RAM. No program in sight.
-/
namespace Go.Proofs.YtheblkofemobdaaGreat
open Go.RowKit

abbrev Pgs := List (Option PgS)
theorem sum_set {α : Type} (F : α → Nat) : ∀ {l : List α} {n : Nat} {x : α} (y : α), l[n]? = some x → ((l.set n y).map F).sum + F x = (l.map F).sum + F y
  | [], n, x, y, h => by cases h
  | a :: l, 0, x, y, h => by cases h; simp only [List.set_cons_zero, List.map_cons, List.sum_cons]; omega
  | a :: l, n + 1, x, y, h => by
    have := sum_set F (l := l) (n := n) y (by simpa using h)
    simp only [List.set_cons_succ, List.map_cons, List.sum_cons]; omega
theorem sum_upd (n : Nat) (F G : Nat → Nat) (r : Nat) (hr : r < n) (h : ∀ j, j ≠ r → G j = F j) : ((List.range n).map G).sum + F r = ((List.range n).map F).sum + G r := by
  induction n with
  | zero => omega
  | succ n ih =>
    simp only [List.range_succ, List.map_append, List.sum_append, List.map_cons, List.map_nil, List.sum_cons, List.sum_nil]
    by_cases hrn : r = n
    · subst hrn
      have e1 : (List.range r).map G = (List.range r).map F := List.map_congr_left fun j hj => h j (by have := List.mem_range.1 hj; omega)
      rw [e1]; omega
    · have := ih (by omega)
      rw [h n (fun e => hrn e.symm)]
      omega
theorem sum_congr (n : Nat) (F G : Nat → Nat) (h : ∀ j, j < n → G j = F j) : ((List.range n).map G).sum = ((List.range n).map F).sum := by
  rw [List.map_congr_left fun j hj => h j (List.mem_range.1 hj)]

def pgRows (x : Option PgS) : Nat := match x with | some g => g.row.length | none => 0
def pgUse (f : Nat → Nat) (x : Option PgS) : Nat := match x with | some g => f g.cls * cnt g.set | none => 0
def fsum (l : Pgs) : Nat := (l.map pgRows).sum
def wsum (f : Nat → Nat) (l : Pgs) : Nat := (l.map (pgUse f)).sum
theorem own_nat (F : FrS) (j : Nat) : F.own (j : Int) = F.owner.getD j 0 := by unfold FrS.own; rw [if_pos (Int.natCast_nonneg j), Int.toNat_natCast]
theorem count_sum (F : FrS) (os : List Int) : F.count os = ((List.range F.owner.length).map fun j : Nat => if F.own (j : Int) ∈ os then 1 else 0).sum := by
  have h2 : F.owner = (List.range F.owner.length).map fun i => F.owner.getD i 0 := by
    apply List.ext_getElem
    · simp
    · intro i h1 h2; simp [List.getD, h1]
  unfold FrS.count
  conv => lhs; rw [h2]
  generalize F.owner.length = n
  induction n with
  | zero => rfl
  | succ n ih =>
    rw [List.range_succ, List.map_append, List.filter_append, List.length_append, ih, List.map_append, List.sum_append]
    congr 1
    rw [List.map_cons, List.map_nil, List.map_cons, List.map_nil, own_nat]
    by_cases h : F.owner.getD n 0 ∈ os
    · rw [if_pos h, List.filter_cons_of_pos (by simpa using h)]; rfl
    · rw [if_neg h, List.filter_cons_of_neg (by simpa using h)]; rfl
theorem count_fun (n : Nat) (u v : Int) (os : List Int) : ∀ (row : List Nat) (o o' : Nat → Int), row.Nodup → (∀ r ∈ row, r < n ∧ o r = u) → (∀ j, o' j = if j ∈ row then v else o j) →
    ((List.range n).map fun j => if o' j ∈ os then 1 else 0).sum + (if u ∈ os then row.length else 0) = ((List.range n).map fun j => if o j ∈ os then 1 else 0).sum + (if v ∈ os then row.length else 0)
  | [], o, o', _, _, h => by
    have : o' = o := by funext j; simpa using h j
    subst this
    simp
  | r :: row, o, o', hnd, hr, h => by
    obtain ⟨hrn, hnd2⟩ := List.nodup_cons.1 hnd
    have ih := count_fun n u v os row o (fun j => if j ∈ row then v else o j) hnd2 (fun q hq => hr q (by simp [hq])) (fun j => rfl)
    have hr0 := hr r (by simp)
    have h1 := sum_upd n (fun j => if (if j ∈ row then v else o j) ∈ os then 1 else 0) (fun j => if o' j ∈ os then 1 else 0) r hr0.1 (fun j hj => by
      rw [h j]
      simp [hj])
    rw [if_neg hrn, hr0.2, h r, if_pos (List.mem_cons_self : r ∈ r :: row)] at h1
    rw [List.length_cons]
    by_cases hu : u ∈ os <;> by_cases hv : v ∈ os <;> simp only [hu, hv, if_true, if_false] at ih h1 ⊢ <;> omega
theorem count_row {F F' : FrS} {row : List Nat} {u v : Int} (hl : F'.owner.length = F.owner.length) (hnd : row.Nodup) (hr : ∀ r ∈ row, r < F.owner.length ∧ F.own (r : Int) = u) (ho : ∀ j : Nat, F'.own (j : Int) = if j ∈ row then v else F.own (j : Int)) (os : List Int) :
    F'.count os + (if u ∈ os then row.length else 0) = F.count os + (if v ∈ os then row.length else 0) := by
  rw [count_sum, count_sum, hl]
  exact count_fun _ u v os row (fun j => F.own (j : Int)) (fun j => F'.own (j : Int)) hnd hr ho

structure PgsOk (M : RamS) (pgs : Pgs) : Prop where
  ram : RamOk M
  fr : FrOk M.fr
  pg : ∀ (n : Nat) (g : PgS), pgs[n]? = some (some g) → ∃ L, PgInv M g L
  apart : ∀ (n m : Nat) (g g' : PgS), n ≠ m → pgs[n]? = some (some g) → pgs[m]? = some (some g') → ∀ r ∈ g.row, r ∉ g'.row
  frames : M.fr.count [3] = fsum pgs
/-- What the pool leaves to others. -/
structure Keep (M M' : RamS) : Prop where
  olen : M'.fr.owner.length = M.fr.owner.length
  own : ∀ j : Nat, M'.fr.own (j : Int) = M.fr.own (j : Int) ∨ ((M.fr.own (j : Int) = 0 ∨ M.fr.own (j : Int) = 3) ∧ (M'.fr.own (j : Int) = 0 ∨ M'.fr.own (j : Int) = 3))
  frame : ∀ j : Nat, M.fr.own (j : Int) ≠ 0 → M.fr.own (j : Int) ≠ 3 → M'.frame j = M.frame j
theorem Keep.refl (M : RamS) : Keep M M := ⟨rfl, fun _ => .inl rfl, fun _ _ _ => rfl⟩
theorem Keep.trans {M M' M'' : RamS} (h : Keep M M') (h' : Keep M' M'') : Keep M M'' := by
  refine ⟨h'.olen.trans h.olen, fun j => ?_, fun j h0 h3 => ?_⟩
  · rcases h.own j with e1 | e1 <;> rcases h'.own j with e2 | e2
    · exact .inl (e2.trans e1)
    · rw [e1] at e2; exact .inr e2
    · rw [← e2] at e1; exact .inr e1
    · exact .inr ⟨e1.1, e2.2⟩
  · rcases h.own j with e1 | e1
    · rw [h'.frame j (by rw [e1]; exact h0) (by rw [e1]; exact h3), h.frame j h0 h3]
    · omega
theorem Keep.count {M M' : RamS} (h : Keep M M') {os : List Int} (h0 : (0 : Int) ∉ os) (h3 : (3 : Int) ∉ os) : M'.fr.count os = M.fr.count os := by
  rw [count_sum, count_sum, h.olen]
  refine sum_congr _ _ _ fun j _ => ?_
  rcases h.own j with e | ⟨e1, e2⟩
  · rw [e]
  · rcases e1 with e1 | e1 <;> rcases e2 with e2 | e2 <;> rw [e1, e2] <;> simp [h0, h3]

section
variable {M M' : RamS} {pgs : Pgs} {n : Nat} {g g' : PgS} {L : List Nat}
theorem get_set {α : Type} {l : List α} {n m : Nat} {x y z : α} (hn : l[n]? = some x) (h : (l.set n y)[m]? = some z) : (m = n ∧ z = y) ∨ (m ≠ n ∧ l[m]? = some z) := by
  rw [List.getElem?_set] at h
  by_cases e : n = m
  · subst e
    rw [if_pos rfl, if_pos (List.getElem?_eq_some_iff.1 hn).1] at h
    cases h
    exact .inl ⟨rfl, rfl⟩
  · rw [if_neg e] at h
    exact .inr ⟨fun q => e q.symm, h⟩
theorem fsum_set {x y : Option PgS} (h : pgs[n]? = some x) : fsum (pgs.set n y) + pgRows x = fsum pgs + pgRows y := sum_set _ y h
theorem wsum_set (f : Nat → Nat) {x y : Option PgS} (h : pgs[n]? = some x) : wsum f (pgs.set n y) + pgUse f x = wsum f pgs + pgUse f y := sum_set _ y h
/-- A zspage's objects changed, its frames alone written. -/
theorem PgsOk.step (h : PgsOk M pgs) (hn : pgs[n]? = some (some g)) (hO : RamOk M') (hf : M'.fr = M.fr) (hrow : g'.row = g.row) (hI : PgInv M' g' L) (hfr : ∀ k, k ∉ g.row → M'.frame k = M.frame k) : PgsOk M' (pgs.set n (some g')) := by
  refine ⟨hO, by rw [hf]; exact h.fr, fun m q hm => ?_, fun a b q q' hab ha hb => ?_, ?_⟩
  · rcases get_set hn hm with ⟨rfl, e⟩ | ⟨hne, e⟩
    · cases e; exact ⟨L, hI⟩
    · obtain ⟨L', hI'⟩ := h.pg m q e
      exact ⟨L', hI'.congr (fun r _ => by rw [hf]) fun r hr => hfr r (h.apart m n q g hne e hn r hr)⟩
  · rcases get_set hn ha with ⟨rfl, e⟩ | ⟨hne, e⟩ <;> rcases get_set hn hb with ⟨rfl, e'⟩ | ⟨hne', e'⟩
    · exact absurd rfl hab
    · cases e; rw [hrow]; exact h.apart _ _ g q' hab hn e'
    · cases e'; rw [hrow]; exact h.apart _ _ q g hab e hn
    · exact h.apart _ _ q q' hab e e'
  · have := fsum_set (y := some g') hn
    unfold pgRows at this
    dsimp only at this
    rw [hrow] at this
    rw [hf, h.frames]
    omega
theorem put_inv (hO : RamOk M) {k : Nat} {d : List UInt8} (hI : PgInv M g (k :: L)) (hd : d.length ≤ csz g.cls) : PgInv (putPg M g k d).1 (putPg M g k d).2 L := by
  obtain ⟨_, hk, hx⟩ := hI.takeHead
  have h1 := hI.take (csz g.cls * k + 0) 2 hI.next
  exact h1.write (tk_ok hO _ _) (n := k) (d := d) (by simpa using hk) (by dsimp only; rw [getD_set hk, if_pos rfl]) hd
theorem put_ram (hO : RamOk M) {k : Nat} {d : List UInt8} (hI : PgInv M g (k :: L)) (hd : d.length ≤ csz g.cls) : RamOk (putPg M g k d).1 ∧ (putPg M g k d).1.fr = M.fr ∧ ∀ j, j ∉ g.row → (putPg M g k d).1.frame j = M.frame j := by
  obtain ⟨_, hk, _⟩ := hI.takeHead
  have h1 := wr_ram (tk_ok hO (csz g.cls * k + 0) 2) (hI.tk (csz g.cls * k + 0) 2).ok hk hd
  exact ⟨h1.1, wr_fr _ _ _ _, h1.2⟩
theorem put_same (hO : RamOk M) {k : Nat} {d : List UInt8} (hI : PgInv M g (k :: L)) (hd : d.length ≤ csz g.cls) : obj (putPg M g k d).1 (putPg M g k d).2 k d.length = d := by
  obtain ⟨_, hk, _⟩ := hI.takeHead
  exact obj_wr_same (tk_ok hO _ _) (hI.tk _ _).ok hk hd
theorem put_other (hO : RamOk M) {k j m : Nat} {d : List UInt8} (hI : PgInv M g (k :: L)) (hd : d.length ≤ csz g.cls) (hj : j ≠ k) (hm : m ≤ csz g.cls) : obj (putPg M g k d).1 (putPg M g k d).2 j m = obj M g j m := by
  obtain ⟨_, hk, _⟩ := hI.takeHead
  exact obj_wr_other (tk_ok hO _ _) (hI.tk _ _).ok hk hd hj hm
theorem give_inv (hO : RamOk M) {k : Nat} (hI : PgInv M g L) (hk : k < g.set.length) (hx : g.set.getD k false = true) : PgInv (givePg M g k).1 (givePg M g k).2 (k :: L) := hI.give hO hk hx
theorem give_ram (hO : RamOk M) {k : Nat} (hI : PgInv M g L) (hk : k < g.set.length) : RamOk (givePg M g k).1 ∧ (givePg M g k).1.fr = M.fr ∧ ∀ j, j ∉ g.row → (givePg M g k).1.frame j = M.frame j := by
  have hl2 : (le 2 g.first).length ≤ csz g.cls := by rw [le_length]; have := csz64 g.cls; omega
  have h1 := wr_ram hO hI.ok hk hl2
  exact ⟨h1.1, wr_fr _ _ _ _, h1.2⟩
theorem give_other (hO : RamOk M) {k j m : Nat} (hI : PgInv M g L) (hk : k < g.set.length) (hj : j ≠ k) (hm : m ≤ csz g.cls) : obj (givePg M g k).1 (givePg M g k).2 j m = obj M g j m := by
  have hl2 : (le 2 g.first).length ≤ csz g.cls := by rw [le_length]; have := csz64 g.cls; omega
  exact obj_wr_other hO hI.ok hk hl2 hj hm
theorem keep_of_fr (hf : M'.fr = M.fr) (hown : ∀ r ∈ g.row, M.fr.own (r : Int) = 3) (hfr : ∀ k, k ∉ g.row → M'.frame k = M.frame k) : Keep M M' :=
  ⟨by rw [hf], fun j => .inl (by rw [hf]), fun j _ h3 => hfr j fun hj => h3 (hown j hj)⟩
theorem giveL_frok {rs : List Nat} : ∀ {M : RamS}, rs.Nodup → (∀ r ∈ rs, M.fr.own (r : Int) ≠ 0) → FrOk M.fr → FrOk (M.giveL rs).fr := by
  induction rs with
  | nil => intro M _ _ h; exact h
  | cons n rs ih =>
    intro M hnd ho h
    obtain ⟨h1, h2⟩ := List.nodup_cons.1 hnd
    have hn := own_lt (ho n (by simp))
    refine ih (M := M.give n) h2 (fun r hr => ?_) (h.give hn (by have := ho n (by simp); rwa [own_nat] at this))
    rw [give_own hn, if_neg (by rintro rfl; exact h1 hr)]
    exact ho r (by simp [hr])
theorem giveL_frame (rs : List Nat) : ∀ (M : RamS) (k : Nat), (M.giveL rs).frame k = M.frame k := by
  induction rs with
  | nil => intro M k; rfl
  | cons n rs ih => intro M k; exact (ih (M.give n) k).trans rfl
theorem giveL_ram {rs : List Nat} : ∀ {M : RamS}, RamOk M → RamOk (M.giveL rs) := by
  induction rs with
  | nil => intro M h; exact h
  | cons n rs ih => intro M h; exact ih (h.give n)
theorem PgsOk.close (h : PgsOk M pgs) (hn : pgs[n]? = some (some g)) : PgsOk (M.giveL g.row) (pgs.set n none) := by
  obtain ⟨L, hI⟩ := h.pg n g hn
  have hlt : ∀ r ∈ g.row, r < M.fr.owner.length := hI.ok.rowIn
  refine ⟨giveL_ram h.ram, giveL_frok hI.ok.nd hI.ok.own0 h.fr, fun m q hm => ?_, fun a b q q' hab ha hb => ?_, ?_⟩
  · rcases get_set hn hm with ⟨rfl, e⟩ | ⟨hne, e⟩
    · cases e
    · obtain ⟨L', hI'⟩ := h.pg m q e
      exact ⟨L', hI'.congr (fun r hr => by rw [giveL_own hlt, if_neg (h.apart m n q g hne e hn r hr)]) fun r hr => giveL_frame _ _ _⟩
  · rcases get_set hn ha with ⟨rfl, e⟩ | ⟨hne, e⟩ <;> rcases get_set hn hb with ⟨rfl, e'⟩ | ⟨hne', e'⟩
    · exact absurd rfl hab
    · cases e
    · cases e'
    · exact h.apart _ _ q q' hab e e'
  · have h1 := fsum_set (y := none) hn
    have h2 := count_row (F := M.fr) (F' := (M.giveL g.row).fr) (row := g.row) (u := 3) (v := 0) (giveL_len _ _) hI.ok.nd (fun r hr => ⟨hlt r hr, hI.ok.own r hr⟩) (giveL_own hlt) [3]
    unfold pgRows at h1
    dsimp only at h1
    have := h.frames
    simp at h2
    omega
theorem close_keep (hO : PgOk M g) : Keep M (M.giveL g.row) := by
  refine ⟨giveL_len _ _, fun j => ?_, fun j _ _ => giveL_frame _ _ _⟩
  rw [giveL_own hO.rowIn]
  by_cases hj : j ∈ g.row
  · rw [if_pos hj]; exact .inr ⟨.inr (hO.own j hj), .inl rfl⟩
  · rw [if_neg hj]; exact .inl rfl
theorem PgsOk.roomy (h : PgsOk M pgs) : PgsOk M (roomy pgs) := by
  unfold Go.Proofs.YtheblkofemobdaaGreat.roomy
  split
  · exact h
  · have key : ∀ (m : Nat) (q : PgS), (pgs ++ [none])[m]? = some (some q) → pgs[m]? = some (some q) := fun m q hm => by
      rcases Nat.lt_or_ge m pgs.length with hl | hl
      · rwa [List.getElem?_append_left hl] at hm
      · rw [List.getElem?_append_right hl] at hm
        cases hk : m - pgs.length with
        | zero => rw [hk] at hm; cases hm
        | succ k => rw [hk] at hm; cases hm
    refine ⟨h.ram, h.fr, fun m q hm => h.pg m q (key m q hm), fun a b q q' hab ha hb => h.apart a b q q' hab (key _ _ ha) (key _ _ hb), ?_⟩
    rw [h.frames]
    simp [fsum, pgRows]
theorem PgsOk.lay (h : PgsOk M pgs) {c : Nat} {p : RamS × PgS} (hm : Made M c p) (hn : pgs[n]? = some none) : PgsOk p.1 (pgs.set n (some p.2)) := by
  have was3 : ∀ (m : Nat) (q : PgS), pgs[m]? = some (some q) → ∀ r ∈ q.row, r ∉ p.2.row := fun m q hq r hr hp => by
    obtain ⟨L', hI'⟩ := h.pg m q hq
    have h1 := hI'.ok.own r hr
    have h2 := hm.was r hp
    omega
  refine ⟨hm.ram, hm.fr, fun m q hq => ?_, fun a b q q' hab ha hb => ?_, ?_⟩
  · rcases get_set hn hq with ⟨rfl, e⟩ | ⟨hne, e⟩
    · cases e; exact ⟨_, hm.inv⟩
    · obtain ⟨L', hI'⟩ := h.pg m q e
      exact ⟨L', hI'.congr (fun r hr => by rw [hm.own, if_neg (was3 m q e r hr)]) fun r hr => hm.frame r (was3 m q e r hr)⟩
  · rcases get_set hn ha with ⟨rfl, e⟩ | ⟨hne, e⟩ <;> rcases get_set hn hb with ⟨rfl, e'⟩ | ⟨hne', e'⟩
    · exact absurd rfl hab
    · cases e; intro r hr hr'; exact was3 _ _ e' r hr' hr
    · cases e'; exact was3 _ _ e
    · exact h.apart _ _ q q' hab e e'
  · have h1 := fsum_set (y := some p.2) hn
    have h2 := count_row (F := M.fr) (F' := p.1.fr) (row := p.2.row) (u := 0) (v := 3) hm.olen hm.inv.ok.nd (fun r hr => ⟨by rw [← hm.olen]; exact hm.inv.ok.rowIn r hr, hm.was r hr⟩) hm.own [3]
    unfold pgRows at h1
    dsimp only at h1
    have := h.frames
    simp at h2
    omega
theorem made_keep {c : Nat} {p : RamS × PgS} (hm : Made M c p) : Keep M p.1 := by
  refine ⟨hm.olen, fun j => ?_, fun j h0 _ => hm.frame j fun hj => h0 (hm.was j hj)⟩
  rw [hm.own]
  by_cases hj : j ∈ p.2.row
  · rw [if_pos hj]; exact .inr ⟨.inl (hm.was j hj), .inr rfl⟩
  · rw [if_neg hj]; exact .inl rfl
end
end Go.Proofs.YtheblkofemobdaaGreat
