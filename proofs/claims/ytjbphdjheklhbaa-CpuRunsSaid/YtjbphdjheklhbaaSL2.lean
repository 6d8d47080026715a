/-
  More of the separation logic: turning of assertions, families of assertions, bytes. No program in sight but the type of bytes.
-/
import Derived.Test.YtjbphdjheklhbaaRow3
import Derived.BigRegion
import Derived.BigQuiet
import Derived.Laws.MakeOwn
namespace Go.Proofs.Ytjbphdjheklhbaa
open Go.RowKit

section
variable {e : Env} {w : World} {A R : List HP} {X Y X0 X1 X2 X3 X4 X5 X6 X7 : HP}

/-- Bring the assertion at place k to the front. -/
theorem Holds.p2 (h : Holds e w (X0 :: X1 :: X :: R)) : Holds e w (X :: X0 :: X1 :: R) := h.take (Take.there _ (Take.there _ (Take.here _ _)))
theorem Holds.p3 (h : Holds e w (X0 :: X1 :: X2 :: X :: R)) : Holds e w (X :: X0 :: X1 :: X2 :: R) := h.take (Take.there _ (Take.there _ (Take.there _ (Take.here _ _))))
theorem Holds.p4 (h : Holds e w (X0 :: X1 :: X2 :: X3 :: X :: R)) : Holds e w (X :: X0 :: X1 :: X2 :: X3 :: R) := h.take (Take.there _ (Take.there _ (Take.there _ (Take.there _ (Take.here _ _)))))
theorem Holds.p5 (h : Holds e w (X0 :: X1 :: X2 :: X3 :: X4 :: X :: R)) : Holds e w (X :: X0 :: X1 :: X2 :: X3 :: X4 :: R) := h.take (Take.there _ (Take.there _ (Take.there _ (Take.there _ (Take.there _ (Take.here _ _))))))
theorem Holds.p6 (h : Holds e w (X0 :: X1 :: X2 :: X3 :: X4 :: X5 :: X :: R)) : Holds e w (X :: X0 :: X1 :: X2 :: X3 :: X4 :: X5 :: R) := h.take (Take.there _ (Take.there _ (Take.there _ (Take.there _ (Take.there _ (Take.there _ (Take.here _ _)))))))
theorem Holds.p7 (h : Holds e w (X0 :: X1 :: X2 :: X3 :: X4 :: X5 :: X6 :: X :: R)) : Holds e w (X :: X0 :: X1 :: X2 :: X3 :: X4 :: X5 :: X6 :: R) := h.take (Take.there _ (Take.there _ (Take.there _ (Take.there _ (Take.there _ (Take.there _ (Take.there _ (Take.here _ _))))))))
theorem Sat.q1 {h : PH} (s : Sat (X :: X0 :: R) h) : Sat (X0 :: X :: R) h := Take.there _ (Take.here _ _) h s
theorem Sat.q2 {h : PH} (s : Sat (X :: X0 :: X1 :: R) h) : Sat (X0 :: X1 :: X :: R) h := Sat.cons (fun _ => Sat.q1) (Sat.q1 s)
theorem Sat.q3 {h : PH} (s : Sat (X :: X0 :: X1 :: X2 :: R) h) : Sat (X0 :: X1 :: X2 :: X :: R) h := Sat.cons (fun _ => Sat.q2) (Sat.q1 s)
theorem Sat.q4 {h : PH} (s : Sat (X :: X0 :: X1 :: X2 :: X3 :: R) h) : Sat (X0 :: X1 :: X2 :: X3 :: X :: R) h := Sat.cons (fun _ => Sat.q3) (Sat.q1 s)
theorem Sat.q5 {h : PH} (s : Sat (X :: X0 :: X1 :: X2 :: X3 :: X4 :: R) h) : Sat (X0 :: X1 :: X2 :: X3 :: X4 :: X :: R) h := Sat.cons (fun _ => Sat.q4) (Sat.q1 s)
theorem Sat.q6 {h : PH} (s : Sat (X :: X0 :: X1 :: X2 :: X3 :: X4 :: X5 :: R) h) : Sat (X0 :: X1 :: X2 :: X3 :: X4 :: X5 :: X :: R) h := Sat.cons (fun _ => Sat.q5) (Sat.q1 s)
theorem Sat.q7 {h : PH} (s : Sat (X :: X0 :: X1 :: X2 :: X3 :: X4 :: X5 :: X6 :: R) h) : Sat (X0 :: X1 :: X2 :: X3 :: X4 :: X5 :: X6 :: X :: R) h := Sat.cons (fun _ => Sat.q6) (Sat.q1 s)
/-- Put the front assertion to place k. -/
theorem Holds.q6 (h : Holds e w (X :: X0 :: X1 :: X2 :: X3 :: X4 :: X5 :: R)) : Holds e w (X0 :: X1 :: X2 :: X3 :: X4 :: X5 :: X :: R) := h.imp fun _ => Sat.q6
theorem Holds.q7 (h : Holds e w (X :: X0 :: X1 :: X2 :: X3 :: X4 :: X5 :: X6 :: R)) : Holds e w (X0 :: X1 :: X2 :: X3 :: X4 :: X5 :: X6 :: X :: R) := h.imp fun _ => Sat.q7
theorem Holds.q2 (h : Holds e w (X :: X0 :: X1 :: R)) : Holds e w (X0 :: X1 :: X :: R) := h.imp fun _ => Sat.q2
theorem Holds.q3 (h : Holds e w (X :: X0 :: X1 :: X2 :: R)) : Holds e w (X0 :: X1 :: X2 :: X :: R) := h.imp fun _ => Sat.q3
theorem Holds.q4 (h : Holds e w (X :: X0 :: X1 :: X2 :: X3 :: R)) : Holds e w (X0 :: X1 :: X2 :: X3 :: X :: R) := h.imp fun _ => Sat.q4
theorem Holds.q5 (h : Holds e w (X :: X0 :: X1 :: X2 :: X3 :: X4 :: R)) : Holds e w (X0 :: X1 :: X2 :: X3 :: X4 :: X :: R) := h.imp fun _ => Sat.q5
theorem Sat.d1 {h : PH} (s : Sat (X0 :: X :: R) h) : Sat (X0 :: R) h := Sat.cons (fun _ => Sat.drop) s
theorem Sat.d2 {h : PH} (s : Sat (X0 :: X1 :: X :: R) h) : Sat (X0 :: X1 :: R) h := Sat.cons (fun _ => Sat.d1) s
theorem Sat.d3 {h : PH} (s : Sat (X0 :: X1 :: X2 :: X :: R) h) : Sat (X0 :: X1 :: X2 :: R) h := Sat.cons (fun _ => Sat.d2) s
theorem Sat.d4 {h : PH} (s : Sat (X0 :: X1 :: X2 :: X3 :: X :: R) h) : Sat (X0 :: X1 :: X2 :: X3 :: R) h := Sat.cons (fun _ => Sat.d3) s
theorem Sat.d5 {h : PH} (s : Sat (X0 :: X1 :: X2 :: X3 :: X4 :: X :: R) h) : Sat (X0 :: X1 :: X2 :: X3 :: X4 :: R) h := Sat.cons (fun _ => Sat.d4) s
theorem Sat.d6 {h : PH} (s : Sat (X0 :: X1 :: X2 :: X3 :: X4 :: X5 :: X :: R) h) : Sat (X0 :: X1 :: X2 :: X3 :: X4 :: X5 :: R) h := Sat.cons (fun _ => Sat.d5) s
theorem Sat.d7 {h : PH} (s : Sat (X0 :: X1 :: X2 :: X3 :: X4 :: X5 :: X6 :: X :: R) h) : Sat (X0 :: X1 :: X2 :: X3 :: X4 :: X5 :: X6 :: R) h := Sat.cons (fun _ => Sat.d6) s
theorem Sat.d8 {h : PH} (s : Sat (X0 :: X1 :: X2 :: X3 :: X4 :: X5 :: X6 :: X7 :: X :: R) h) : Sat (X0 :: X1 :: X2 :: X3 :: X4 :: X5 :: X6 :: X7 :: R) h := Sat.cons (fun _ => Sat.d7) s
/-- Drop the assertion at place k. -/
theorem Holds.d1 (h : Holds e w (X0 :: X :: R)) : Holds e w (X0 :: R) := h.imp fun _ => Sat.d1
theorem Holds.d2 (h : Holds e w (X0 :: X1 :: X :: R)) : Holds e w (X0 :: X1 :: R) := h.imp fun _ => Sat.d2
theorem Holds.d3 (h : Holds e w (X0 :: X1 :: X2 :: X :: R)) : Holds e w (X0 :: X1 :: X2 :: R) := h.imp fun _ => Sat.d3
theorem Holds.d4 (h : Holds e w (X0 :: X1 :: X2 :: X3 :: X :: R)) : Holds e w (X0 :: X1 :: X2 :: X3 :: R) := h.imp fun _ => Sat.d4
theorem Holds.d5 (h : Holds e w (X0 :: X1 :: X2 :: X3 :: X4 :: X :: R)) : Holds e w (X0 :: X1 :: X2 :: X3 :: X4 :: R) := h.imp fun _ => Sat.d5
theorem Holds.d6 (h : Holds e w (X0 :: X1 :: X2 :: X3 :: X4 :: X5 :: X :: R)) : Holds e w (X0 :: X1 :: X2 :: X3 :: X4 :: X5 :: R) := h.imp fun _ => Sat.d6
theorem Holds.d7 (h : Holds e w (X0 :: X1 :: X2 :: X3 :: X4 :: X5 :: X6 :: X :: R)) : Holds e w (X0 :: X1 :: X2 :: X3 :: X4 :: X5 :: X6 :: R) := h.imp fun _ => Sat.d7
theorem Holds.d8 (h : Holds e w (X0 :: X1 :: X2 :: X3 :: X4 :: X5 :: X6 :: X7 :: X :: R)) : Holds e w (X0 :: X1 :: X2 :: X3 :: X4 :: X5 :: X6 :: X7 :: R) := h.imp fun _ => Sat.d8
theorem Holds.cons (h : Holds e w (X :: A)) (f : ∀ h, Sat A h → Sat R h) : Holds e w (X :: R) := h.imp fun _ => Sat.cons f

theorem Take.mid (X : HP) (L2 : List HP) : ∀ L1 : List HP, Take (L1 ++ X :: L2) X (L1 ++ L2)
  | [] => Take.here _ _
  | Y :: L1 => Take.there Y (Take.mid X L2 L1)
theorem Sat.toMid (X : HP) (L2 : List HP) : ∀ (L1 : List HP) (h : PH), Sat (X :: (L1 ++ L2)) h → Sat (L1 ++ X :: L2) h
  | [], _, s => s
  | Y :: L1, _, s => Sat.cons (fun h' s' => Sat.toMid X L2 L1 h' s') (Sat.q1 (X0 := Y) (R := L1 ++ L2) s)

/-- A family: the assertions of all members. -/
def all {α : Type} (f : α → HP) (l : List α) : HP := grp (l.map f)
theorem split_at {α : Type} {l : List α} {i : Nat} {x : α} (h : l[i]? = some x) : l = l.take i ++ x :: l.drop (i + 1) ∧ l.eraseIdx i = l.take i ++ l.drop (i + 1) := by
  obtain ⟨hi, rfl⟩ := List.getElem?_eq_some_iff.1 h
  exact ⟨by rw [List.getElem_cons_drop hi, List.take_append_drop], by rw [List.eraseIdx_eq_take_drop_succ]⟩
theorem Holds.focus {α : Type} {f : α → HP} {l : List α} {i : Nat} {x : α} (hi : l[i]? = some x) (H : Holds e w (all f l :: A)) : Holds e w (f x :: all f (l.eraseIdx i) :: A) := by
  obtain ⟨h1, h2⟩ := split_at hi
  unfold all at *
  rw [h2]
  have H1 := H.ungrp
  generalize hL : l.take i = L1 at *
  generalize hR : l.drop (i + 1) = L2 at *
  rw [h1, List.map_append, List.map_cons, List.append_assoc, List.cons_append] at H1
  have H2 := H1.take (Take.mid (f x) (L2.map f ++ A) (L1.map f))
  rw [← List.append_assoc, ← List.map_append] at H2
  exact H2.imp fun _ => Sat.cons fun _ => Sat.append.1
theorem Holds.unfocus' {α : Type} {f : α → HP} {l : List α} {i : Nat} {x : α} (hi : l[i]? = some x) (H : Holds e w (f x :: all f (l.eraseIdx i) :: A)) : Holds e w (all f l :: A) := by
  obtain ⟨h1, h2⟩ := split_at hi
  unfold all at *
  rw [h2] at H
  have H1 := H.imp (R := f x :: ((l.take i ++ l.drop (i + 1)).map f ++ A)) fun _ => Sat.cons fun _ => Sat.append.2
  generalize hL : l.take i = L1 at *
  generalize hR : l.drop (i + 1) = L2 at *
  rw [List.map_append, List.append_assoc] at H1
  have H2 := H1.imp (Sat.toMid (f x) (L2.map f ++ A) (L1.map f))
  rw [← List.cons_append, ← List.append_assoc, ← List.map_cons, ← List.map_append, ← h1] at H2
  exact H2.mkGrp
theorem Holds.unfocus {α : Type} {f : α → HP} {l : List α} {i : Nat} {y : α} (hi : i < l.length) (H : Holds e w (f y :: all f (l.eraseIdx i) :: A)) : Holds e w (all f (l.set i y) :: A) := by
  refine Holds.unfocus' (i := i) (x := y) (by simp [hi]) ?_
  rw [List.eraseIdx_set_eq]
  exact H
theorem Holds.allNil {α : Type} {f : α → HP} (H : Holds e w A) : Holds e w (all f [] :: A) := Holds.mkGrp (L := []) H
theorem Holds.allCons {α : Type} {f : α → HP} {l : List α} {x : α} (H : Holds e w (f x :: all f l :: A)) : Holds e w (all f (x :: l) :: A) :=
  Holds.mkGrp (L := (x :: l).map f) (H.imp fun _ => Sat.cons fun _ => Sat.append.2)
theorem Holds.allSnoc {α : Type} {f : α → HP} {l : List α} {x : α} (H : Holds e w (f x :: all f l :: A)) : Holds e w (all f (l ++ [x]) :: A) := by
  refine Holds.unfocus' (i := l.length) (x := x) (by simp) ?_
  have : (l ++ [x]).eraseIdx l.length = l := by rw [List.eraseIdx_append_of_length_le (by omega)]; simp
  rw [this]
  exact H
theorem Holds.allEmp {α : Type} {f : α → HP} {l : List α} (H : Holds e w (all f l :: A)) : Holds e w A := H.drop

theorem row.take {v : Value} {T : TypeId} {size n m : Nat} {xs : List Value} (H : Holds e w (row v T size n xs :: A)) (hm : m ≤ n) (hn : 0 < n) :
    ∃ g c, v = .slice (some ⟨g, 0, none⟩) n c ∧ n ≤ c ∧ Holds e w (row (.slice (some ⟨g, 0, none⟩) m c) T size m (xs.take (m * size)) :: A) := by
  obtain ⟨hl, h⟩ := row.open H
  rcases h with ⟨_, rfl⟩ | ⟨g, cap, cur, rfl, h1, h2, h3, h4, h5⟩
  · omega
  · refine ⟨g, cap, rfl, h1, row.made h5 (by omega) h2 h3 ?_⟩
    rw [← h4, List.take_take]
    congr 1
    exact (Nat.min_eq_left (Nat.mul_le_mul_right _ hm)).symm
end

/-- Bytes in memory. -/
def u8v (l : List UInt8) : List Value := l.map (fun c => Value.int .u8 (c.toNat : Int))
@[simp] theorem u8v_length (l : List UInt8) : (u8v l).length = l.length := by simp [u8v]
theorem u8v_one (l : List UInt8) : ∀ u ∈ u8v l, u.oneCell' = true := by
  intro u hu; simp [u8v] at hu; obtain ⟨x, _, rfl⟩ := hu; rfl
theorem u8v_append (a b : List UInt8) : u8v (a ++ b) = u8v a ++ u8v b := by simp [u8v]
theorem u8v_take (l : List UInt8) (n : Nat) : (u8v l).take n = u8v (l.take n) := by simp [u8v, List.map_take]
theorem u8v_drop (l : List UInt8) (n : Nat) : (u8v l).drop n = u8v (l.drop n) := by simp [u8v, List.map_drop]
theorem u8v_get {l : List UInt8} {i : Nat} (h : i < l.length) : (u8v l)[i]? = some (.int .u8 ((l.getD i 0).toNat : Int)) := by
  simp [u8v, List.getD, List.getElem?_eq_getElem h]
theorem elem_u8 : ElemOf Try.prog 22 5 1 1 := ElemOf.mk (z := .int .u8 0) (by kernel_rfl) (by kernel_rfl) rfl (by decide)
/-- v is a slice that owns its bytes l. -/
def bts (v : Value) (l : List UInt8) : HP := row v 5 1 l.length (u8v l)
/-- Through v the bytes l are read. -/
def RdB (w : World) (v : Value) (l : List UInt8) : Prop := Reads w v 1 l.length (u8v l)
theorem bts.reads {e : Env} {w : World} {R : List HP} {v : Value} {l : List UInt8} (H : Holds e w (bts v l :: R)) : RdB w v l := row.reads H
theorem bts.nil {e : Env} {w : World} {R : List HP} (H : Holds e w R) : Holds e w (bts (.slice none 0 0) [] :: R) := row.nil _ 1 H
theorem RdB.shape {w : World} {v : Value} {l : List UInt8} (h : RdB w v l) : ∃ a c, v = .slice a l.length c := Reads.shape h

theorem getD_set {α : Type} {l : List α} {i j : Nat} {v d : α} (hi : i < l.length) : (l.set i v).getD j d = if j = i then v else l.getD j d := by
  by_cases h : j = i
  · subst h; simp [List.getD, hi]
  · rw [if_neg h]; simp [List.getD, List.getElem?_set_ne (fun e => h e.symm)]
theorem getD_set_ne {α : Type} {l : List α} {i j : Nat} {v d : α} (h : j ≠ i) : (l.set i v).getD j d = l.getD j d := by
  simp [List.getD, List.getElem?_set_ne (fun e => h e.symm)]
theorem get_getD {α : Type} {l : List α} {i : Nat} {d : α} (h : i < l.length) : l[i]? = some (l.getD i d) := by
  simp [List.getD, List.getElem?_eq_getElem h]
theorem getD_mem {α : Type} {l : List α} {n : Nat} {d : α} (h : n < l.length) : l.getD n d ∈ l := by simp [List.getD, h]
theorem getD_of {α : Type} {l : List α} {i : Nat} {d x : α} (h : l[i]? = some x) : l.getD i d = x := by simp [List.getD, h]
@[elab_as_elim] theorem gen_world {motive : World → Prop} {e : Env} {w : World} {A : List HP} (H : Holds e w A) (h : ∀ w', Holds e w' A → motive w') : motive w := h w H
theorem intsA_get {l : List Int} {x : Nat} (h : x < l.length) : (ints l).toArray[x]? = some (.int .i64 (l.getD x 0)) := by
  simp [ints, List.getD, List.getElem?_eq_getElem h]
theorem ints_set (l : List Int) (i : Nat) (v : Int) : (ints l).toArray.setIfInBounds i (.int .i64 v) = (ints (l.set i v)).toArray := by
  simp [ints, List.map_set]
theorem reads_lit1 (w : World) (u : Value) (T : TypeId) : Reads (w.alloc (.cells #[u] T)) (.slice (some ⟨w.heap.size, 0, none⟩) 1 1) 1 1 [u] := by
  refine ⟨rfl, .inr ⟨_, _, rfl, Nat.le_refl _, fun j u hj => ?_⟩⟩
  rw [Addr.add_at, Nat.zero_add, World.cell?_alloc_new]
  simpa using hj
def intsObj (l : List Int) : Obj := .cells (ints l).toArray 3 (0, 0)
def nats (l : List Nat) : List Int := l.map (fun x : Nat => (x : Int))
@[simp] theorem nats_length (l : List Nat) : (nats l).length = l.length := List.length_map _
theorem nats_append (a b : List Nat) : nats (a ++ b) = nats a ++ nats b := by simp [nats]
theorem nats_getD (l : List Nat) (i : Nat) : (nats l).getD i 0 = ((l.getD i 0 : Nat) : Int) := by
  by_cases h : i < l.length
  · simp [nats, List.getD, h]
  · simp [nats, List.getD, List.getElem?_eq_none (Nat.le_of_not_lt h)]
theorem wrap64_wrap (a : Int) (k : Int) : wrap64 (wrap64 a + k) = wrap64 (a + k) := by unfold wrap64; omega
theorem madeI (n : Nat) : madeCells #[Value.int .i64 0] n = (ints (List.replicate n 0)).toArray := by
  apply Array.toList_inj.1
  simp [madeCells, ints, Array.toList_range, List.map_const', Nat.mod_one]
theorem mkI (n : Nat) (hn : n ≤ 4096) (z : Int) (hz : (n : Int) = z) (W : World) : (Instr.makeSlice 61 (.int .i64 z) (.int .i64 z)).run Try.prog W = .ok (.slice (some ⟨W.heap.size, 0, none⟩) n n) (W.alloc (.cells (ints (List.replicate n 0)).toArray 3)) := by
  subst hz
  obtain ⟨i0, hi, hz0, hz1, hz2⟩ := info_parts (P := Try.prog) (e := 3) (z := .int .i64 0) (size := 1) (bytes := 8) (by kernel_rfl)
  have h := run_make (P := Try.prog) W 61 3 i0 (.int .i64 0) (by kernel_rfl) hi hz0 .i64 .i64 (n : Int) (n : Int) (by omega) (by omega) (by rw [hz2]; omega) (by omega)
  rw [hz1] at h
  simpa [madeI, Value.cells] using h
end Go.Proofs.Ytjbphdjheklhbaa
