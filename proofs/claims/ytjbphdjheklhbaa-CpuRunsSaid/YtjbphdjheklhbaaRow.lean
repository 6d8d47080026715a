/-
  Slices in the separation logic: a row that is owned, what is read through a slice, and the law of append.
-/
import Derived.Test.YtjbphdjheklhbaaSL
namespace Go.Proofs.Ytjbphdjheklhbaa
open Go.RowKit

/-- v is a slice of n elements of size cells each, which owns its block; its cells are xs. -/
def row (v : Value) (e : TypeId) (size n : Nat) (xs : List Value) : HP := fun h =>
  xs.length = n * size ∧ ((v = .slice none 0 0 ∧ n = 0) ∨
    ∃ g cap cur, v = .slice (some ⟨g, 0, none⟩) n cap ∧ h g = some (.cells cur e (0, 0)) ∧ n ≤ cap ∧ cap ≤ maxLen ∧ cur.size = cap * size ∧ cur.toList.take (n * size) = xs)

/-- Through v the cells xs are read. -/
def Reads (w : World) (v : Value) (size n : Nat) (xs : List Value) : Prop :=
  xs.length = n * size ∧ ((v = .slice none 0 0 ∧ n = 0) ∨
    ∃ a cap, v = .slice (some a) n cap ∧ n ≤ cap ∧ ∀ j u, xs[j]? = some u → w.cell? (a.add j) = some u)

/-- t is a slice type over e. -/
def ElemOf (P : Program) (t e : TypeId) (size bytes : Nat) : Prop :=
  ∃ i z, P.underlying t = some (.slice e) ∧ P.info? e = some i ∧ i.zero = some z ∧ i.size = size ∧ i.bytes = bytes ∧ z.cells.size = size ∧ 0 < size

theorem ElemOf.mk {P : Program} {t e : TypeId} {size bytes : Nat} {z : Value} (ht : P.underlying t = some (.slice e))
    (hi : (P.info? e).map (fun i => (i.zero, i.size, i.bytes)) = some (some z, size, bytes)) (hz : z.cells.size = size) (hs : 0 < size) : ElemOf P t e size bytes := by
  cases h : P.info? e with
  | none => rw [h] at hi; cases hi
  | some i =>
    rw [h] at hi
    simp at hi
    exact ⟨i, z, ht, h, hi.1, hi.2.1, hi.2.2, hz, hs⟩

theorem take_get {α : Type} {l : List α} {n j : Nat} {u : α} (h : (l.take n)[j]? = some u) : l[j]? = some u ∧ j < n := by
  rw [List.getElem?_take] at h
  split at h
  · exact ⟨h, by assumption⟩
  · cases h

section
variable {P : Program} {en : Env} {w w' : World} {A R : List HP}

theorem Holds.cellAny {b : Nat} {c : Array Value} {T : TypeId} {fz : Nat × Nat} (h : w.heap[b]? = some (.cells c T fz)) (i : Nat) : w.cell? ⟨b, i, none⟩ = c[i]? := by
  simp [World.cell?, h]

theorem row.reads {v : Value} {e : TypeId} {size n : Nat} {xs : List Value} (h : Holds en w (row v e size n xs :: R)) : Reads w v size n xs := by
  obtain ⟨_, _, _, h1, h2, d, e1, e2, ⟨hl, x⟩, s⟩ := h
  refine ⟨hl, ?_⟩
  rcases x with ⟨rfl, rfl⟩ | ⟨g, cap, cur, rfl, hg, hn, hm, hs, ht⟩
  · exact .inl ⟨rfl, rfl⟩
  · refine .inr ⟨_, _, rfl, hn, fun j u hj => ?_⟩
    have hb : w.heap[g]? = some (.cells cur e (0, 0)) := e1 g _ hg
    have : (⟨g, 0, none⟩ : Addr).add j = ⟨g, j, none⟩ := by
      unfold Addr.add; split
      · rename_i h; subst h; rfl
      · simp
    rw [this, Holds.cellAny hb]
    rw [← ht] at hj
    have hj' := take_get hj
    simpa using hj'.1

theorem Reads.len {v : Value} {size n : Nat} {xs : List Value} (h : Reads w v size n xs) : xs.length = n * size := h.1

theorem Reads.keep {v : Value} {size n : Nat} {xs : List Value} (h : Reads w v size n xs) (hk : ∀ b o, b < w.heap.size → w'.cell? ⟨b, o, none⟩ = w.cell? ⟨b, o, none⟩) : Reads w' v size n xs := by
  refine ⟨h.1, h.2.imp id ?_⟩
  rintro ⟨a, cap, rfl, hc, hr⟩
  refine ⟨a, cap, rfl, hc, fun j u hj => ?_⟩
  have := hr j u hj
  have hlt := World.block_lt_of_cell? _ _ this
  have hsp : (a.add j).spot = none := by
    unfold World.cell? at this
    split at this
    · cases hs : (a.add j).spot with
      | none => rfl
      | some x => simp [hs] at this
    · cases this
  rw [← this]
  have e : a.add j = ⟨(a.add j).block, (a.add j).off, none⟩ := by rw [← hsp]
  rw [e]
  exact hk _ _ hlt

theorem Reads.alloc {v : Value} {size n : Nat} {xs : List Value} (h : Reads w v size n xs) (o : Obj) : Reads (w.alloc o) v size n xs :=
  h.keep fun b _ hb => World.cell?_of_block (w := w) (Below.heap_alloc w o b hb)

theorem Reads.drewN {v : Value} {size n k : Nat} {xs : List Value} (h : Reads w v size n xs) : Reads (w.drewN k) v size n xs := h

/-- A slice that reads in the base world reads in each world that holds the base. -/
theorem Reads.based {W : World} {v : Value} {size n : Nat} {xs : List Value} (h : Reads W v size n xs) (H : Holds en w (base W :: R)) : Reads w v size n xs :=
  h.keep fun _ _ hb => World.cell?_of_block (w := W) (H.baseE hb)

theorem row.nil (e : TypeId) (size : Nat) (H : Holds en w A) : Holds en w (row (.slice none 0 0) e size 0 [] :: A) :=
  ⟨H.os, H.output, H.tape, fun _ => none, _, fun b => .inl rfl, fun b o g => (by cases g), fun b o g => g, ⟨by simp, .inl ⟨rfl, rfl⟩⟩, H.sat⟩

theorem row.made {e : TypeId} {size cap n b : Nat} {cur : Array Value} {xs : List Value} (H : Holds en w (pts b (.cells cur e (0, 0)) :: A)) (hn : n ≤ cap) (hm : cap ≤ maxLen)
    (hs : cur.size = cap * size) (hx : cur.toList.take (n * size) = xs) : Holds en w (row (.slice (some ⟨b, 0, none⟩) n cap) e size n xs :: A) :=
  H.head fun h g => ⟨by rw [← hx]; simp only [List.length_take, Array.length_toList, hs]; exact Nat.min_eq_left (Nat.mul_le_mul_right _ hn), .inr ⟨b, cap, cur, rfl, g, hn, hm, hs, hx⟩⟩

/-- What an owned row is: nil, or a block. -/
theorem row.open {v : Value} {e : TypeId} {size n : Nat} {xs : List Value} (H : Holds en w (row v e size n xs :: A)) :
    xs.length = n * size ∧ ((v = .slice none 0 0 ∧ n = 0) ∨ ∃ g cap cur, v = .slice (some ⟨g, 0, none⟩) n cap ∧ n ≤ cap ∧ cap ≤ maxLen ∧ cur.size = cap * size ∧ cur.toList.take (n * size) = xs ∧ Holds en w (pts g (.cells cur e (0, 0)) :: A)) := by
  obtain ⟨o1, o2, o3, h1, h2, d, e1, e2, ⟨hl, x⟩, s⟩ := H
  refine ⟨hl, x.imp id ?_⟩
  rintro ⟨g, cap, cur, rfl, hg, hn, hm, hs, ht⟩
  exact ⟨g, cap, cur, rfl, hn, hm, hs, ht, o1, o2, o3, h1, h2, d, e1, e2, hg, s⟩

theorem Addr.add_at (g o j : Nat) : (⟨g, o, none⟩ : Addr).add j = ⟨g, o + j, none⟩ := by
  unfold Addr.add; split
  · rename_i h; subst h; rfl
  · rfl

theorem run_append_sl (t ty e : TypeId) (size bytes : Nat) (hE : ElemOf P t e size bytes) (v : Value) (n : Nat) (xs : List Value) (H : Holds en w (row v e size n xs :: R))
    (x : Value) (m : Nat) (news : List Value) (hr : Reads w x size m news) (h1 : ∀ u ∈ news, u.oneCell' = true) (h63 : n + m ≤ maxLen) (hbytes : (n + m) * bytes ≤ 140737488355328) :
    ∃ v' w', (Builtin.append_ #[t, t] ty #[v, x]).run P w = .ok v' w' ∧ Holds en w' (row v' e size (n + m) (xs ++ news) :: R) := by
  obtain ⟨i, z, ht, hi, hz, rfl, rfl, hzs, hsz⟩ := hE
  have hsmall : n + m ≤ 9223372036854775807 := by simp only [maxLen] at h63; omega
  obtain ⟨hxl, hx⟩ := row.open H
  obtain ⟨hnl, hx2⟩ := hr
  have hlen : (xs ++ news).length = (n + m) * i.size := by rw [List.length_append, hxl, hnl, Nat.add_mul]
  rcases hx2 with ⟨rfl, rfl⟩ | ⟨a, c, rfl, hc, hcell⟩
  · -- nothing is appended
    have hn0 : news = [] := List.eq_nil_of_length_eq_zero (by simpa using hnl)
    subst hn0
    refine ⟨v, w, ?_, by simpa using H⟩
    rcases hx with ⟨rfl, rfl⟩ | ⟨g, cap, cur, rfl, hcap, hm, hs, htk, H'⟩
    · simp [Builtin.append_, run_underlying ht, sizeOf, typeInfo, hi, Builtin.lenOf, Builtin.firstCells]
    · have hr := run_storeCells_at P g (n * i.size) e [] 0 cur w H'.get (by simp only [List.length_nil, Nat.add_zero, hs]; exact Nat.mul_le_mul_right _ hcap) (by simp)
      simp only [List.append_nil, Nat.add_zero, List.length_nil] at hr
      simp [Builtin.append_, run_underlying ht, sizeOf, typeInfo, hi, Builtin.lenOf, Builtin.firstCells, hcap, storeCells]
  · have grown : ∀ old : Nat, old < n + m → Holds en (w.drew.alloc (.cells (xs.toArray ++ news.toArray ++ Builtin.zeroCells z.cells (grownCap w (n + m) old e - (n + m))) e))
        (row (.slice (some ⟨w.heap.size, 0, none⟩) (n + m) (grownCap w (n + m) old e)) e i.size (n + m) (xs ++ news) :: R) := by
      intro old ho
      have hge := grownCap_ge w (n + m) old e
      have hcm : grownCap w (n + m) old e ≤ maxLen := grownCap_le_maxLen w (n + m) old e h63
      refine row.made (H.drop.drew.alloc _) hge hcm ?_ ?_
      · simp only [Array.size_append, List.size_toArray, size_zeroCells, hzs, hxl, hnl, ← Nat.add_mul]
        congr 1
        omega
      · simp only [Array.toList_append, List.append_assoc]
        rw [← List.append_assoc, ← hlen]
        exact List.take_left
    rcases hx with ⟨rfl, rfl⟩ | ⟨g, cap, cur, rfl, hcap, hm, hs, htk, H'⟩
    · have hx0 : xs = [] := List.eq_nil_of_length_eq_zero (by simpa using hxl)
      subst hx0
      by_cases hm0 : m = 0
      · subst hm0
        have hn : news = [] := List.eq_nil_of_length_eq_zero (by simpa using hnl)
        subst hn
        refine ⟨.slice none 0 0, w, ?_, H⟩
        simp [Builtin.append_, run_underlying ht, sizeOf, typeInfo, hi, Builtin.lenOf, Builtin.firstCells, loadCells, loadCellsFrom]
      · have hr := run_append_nil (P := P) w t ty e i z ht hi hz a m c news hnl hcell (by omega) (by omega) (by have hb := hbytes; simp only [Nat.zero_add] at hb; omega)
        have hgr := grown 0 (by omega)
        simp only [Nat.zero_add, List.nil_append, Array.empty_append] at hgr ⊢
        exact ⟨_, _, hr, hgr⟩
    · by_cases hroom : n + m ≤ cap
      · have hfit : n * i.size + news.length ≤ cur.size := by rw [hnl, hs, ← Nat.add_mul]; exact Nat.mul_le_mul_right _ hroom
        have hr := run_append_room (P := P) w t ty e i ht hi g n cap cur H'.get a m c news hnl hcell h1 hroom hfit
        refine ⟨_, _, hr, row.made (H'.setObj (w' := w.setRow g _) rfl rfl rfl (setRow_heap w g cur _ e _ H'.get) (fun k hk => setRow_other w g k _ hk)) hroom hm ?_ ?_⟩
        · simp only [List.size_toArray, List.length_append, List.length_take, List.length_drop, Array.length_toList]
          omega
        · rw [htk, ← hlen]
          exact List.take_left
      · have holds : ∀ j u, xs[j]? = some u → w.cell? ((⟨g, 0, none⟩ : Addr).add j) = some u := by
          intro j u hj
          rw [Addr.add_at, Nat.zero_add, Holds.cellAny H'.get]
          rw [← htk] at hj
          simpa using (take_get hj).1
        have hr := run_append_grow (P := P) w t ty e i z ht hi hz ⟨g, 0, none⟩ n cap xs hxl holds a m c news hnl hcell (by omega) (by omega) (growslice_fits (by omega) hbytes)
        exact ⟨_, _, hr, grown cap (by omega)⟩

theorem wp_append_sl {o : Oper} {a : Act} {K : Act → World → Prop} {Q : Exit → Act → World → Prop} (s x : Operand) (t : TypeId)
    (ho : o.op = .call { callee := .builtin .append, args := #[s, x], argTypes := #[t, t] })
    (e : TypeId) (size bytes : Nat) (hE : ElemOf P t e size bytes) (v : Value) (n : Nat) (xs : List Value) (hs : a.eval s = v) (H : Holds en w (row v e size n xs :: R))
    (vx : Value) (m : Nat) (news : List Value) (hx : a.eval x = vx) (hr : Reads w vx size m news) (h1 : ∀ u ∈ news, u.oneCell' = true)
    (h63 : n + m ≤ maxLen) (hbytes : (n + m) * bytes ≤ 140737488355328)
    (h : ∀ v' w', Holds en w' (row v' e size (n + m) (xs ++ news) :: R) → K (a.put o.dst v') w') : o.wp P a w K Q := by
  obtain ⟨v', w', hr, h2⟩ := run_append_sl (P := P) t o.type e size bytes hE v n xs H vx m news hr h1 h63 hbytes
  unfold Oper.wp execOp
  simp only [ho, resolve, invoke, builtin, Sem.run_bind, Sem.run_pure, Result.andThen_ok, List.map_toArray, List.map_cons, List.map_nil, hs, hx, hr]
  exact h v' w' h2

theorem wpList_append_sl {ops : Array Oper} {rest : List Oper} {o : Oper} {a : Act} {Q : Exit → Act → World → Prop} (hgd : o.guard = none) (s x : Operand) (t : TypeId)
    (ho : o.op = .call { callee := .builtin .append, args := #[s, x], argTypes := #[t, t] })
    (e : TypeId) (size bytes : Nat) (hE : ElemOf P t e size bytes) (v : Value) (n : Nat) (xs : List Value) (hs : a.eval s = v) (H : Holds en w (row v e size n xs :: R))
    (vx : Value) (m : Nat) (news : List Value) (hx : a.eval x = vx) (hr : Reads w vx size m news) (h1 : ∀ u ∈ news, u.oneCell' = true)
    (h63 : n + m ≤ maxLen) (hbytes : (n + m) * bytes ≤ 140737488355328)
    (h : ∀ v' w', Holds en w' (row v' e size (n + m) (xs ++ news) :: R) → wpList P ops Q rest (a.put o.dst v') w') : wpList P ops Q (o :: rest) a w :=
  wpList_plain hgd fun _ hK => wp_append_sl s x t ho e size bytes hE v n xs hs H vx m news hx hr h1 h63 hbytes fun v' w' h2 => hK _ _ (h v' w' h2)

end

/-- append, as one step of a region that draws its order. -/
theorem step_append_sl {P : Program} {en : Env} {R : List HP} {ops : Array Oper} {o : Oper} {a : Act} {w : World} {K : Act → World → Prop} {Q : Exit → Act → World → Prop} {E : Prop} (hgd : o.guard = none) (s x : Operand) (t : TypeId)
    (ho : o.op = .call { callee := .builtin .append, args := #[s, x], argTypes := #[t, t] })
    (e : TypeId) (size bytes : Nat) (hE : ElemOf P t e size bytes) (v : Value) (n : Nat) (xs : List Value) (hs : a.eval s = v)
    (vx : Value) (m : Nat) (news : List Value) (hx : a.eval x = vx) (h1 : ∀ u ∈ news, u.oneCell' = true)
    (h63 : n + m ≤ maxLen) (hbytes : (n + m) * bytes ≤ 140737488355328) (H : Holds en w (row v e size n xs :: R)) (hr : Reads w vx size m news)
    (h : ∀ v' w', Holds en w' (row v' e size (n + m) (xs ++ news) :: R) → K (a.put o.dst v') w') : if Region.wanted o (yielded ops a.tmps) = true then Oper.wp P o a w K Q else E := by
  have hw : Region.wanted o (yielded ops a.tmps) = true := by simp [Region.wanted, hgd]
  rw [if_pos hw]
  exact wp_append_sl s x t ho e size bytes hE v n xs hs H vx m news hx hr h1 h63 hbytes h

def ints (xs : List Int) : List Value := xs.map (Value.int .i64)
@[simp] theorem ints_length (xs : List Int) : (ints xs).length = xs.length := by simp [ints]
theorem ints_get {xs : List Int} {i : Nat} {x : Int} (h : xs[i]? = some x) : (ints xs)[i]? = some (.int .i64 x) := by simp [ints, h]
theorem ints_one (xs : List Int) : ∀ u ∈ ints xs, u.oneCell' = true := by
  intro u hu; simp [ints] at hu; obtain ⟨x, _, rfl⟩ := hu; rfl
theorem ints_append (xs ys : List Int) : ints (xs ++ ys) = ints xs ++ ints ys := by simp [ints]

theorem elem_int : ElemOf Try.prog 61 3 1 8 := ElemOf.mk (z := .int .i64 0) (by kernel_rfl) (by kernel_rfl) rfl (by decide)

theorem reads_lit (w : World) (xs : List Int) (T : TypeId) (n : Nat) (hn : xs.length = n) : Reads (w.alloc (.cells (ints xs).toArray T)) (.slice (some ⟨w.heap.size, 0, none⟩) n n) 1 n (ints xs) := by
  refine ⟨by simp [hn], .inr ⟨_, _, rfl, Nat.le_refl _, fun j u hj => ?_⟩⟩
  rw [Addr.add_at, Nat.zero_add, World.cell?_alloc_new]
  simpa using hj

theorem reads_none (w : World) (size : Nat) : Reads w (.slice none 0 0) size 0 [] := ⟨by simp, .inl ⟨rfl, rfl⟩⟩

/-- The value is a slice of n elements, whatever its block. -/
def Value.isSlice (v : Value) (n : Nat) : Prop := ∃ a c, v = .slice a n c

theorem Reads.shape {w : World} {v : Value} {size n : Nat} {xs : List Value} (h : Reads w v size n xs) : ∃ a c, v = .slice a n c := by
  rcases h.2 with ⟨rfl, rfl⟩ | ⟨a, c, rfl, _⟩
  · exact ⟨_, _, rfl⟩
  · exact ⟨_, _, rfl⟩

theorem Reads.at {w : World} {a : Option Addr} {size n c : Nat} {xs : List Value} (h : Reads w (.slice a n c) size n xs) (hn : 0 < n * size) :
    ∃ b o, a = some ⟨b, o, none⟩ ∧ ∀ j u, xs[j]? = some u → w.cell? ⟨b, o + j, none⟩ = some u := by
  rcases h.2 with ⟨_, rfl⟩ | ⟨⟨b, o, s⟩, cap, hv, hc, hr⟩
  · omega
  · cases hv
    have h0 : 0 < xs.length := by rw [h.1]; exact hn
    have := hr 0 xs[0] (List.getElem?_eq_getElem h0)
    have hs : s = none := by
      unfold World.cell? at this
      split at this
      · cases s with
        | none => rfl
        | some x => simp [Addr.add] at this
      · cases this
    subst hs
    exact ⟨b, o, rfl, fun j u hj => by rw [← Addr.add_at]; exact hr j u hj⟩

/-- A slice argument of numbers, read in the base world. -/
theorem flat_at {W : World} {a : Option Addr} {size n c : Nat} {zs : List Int} (h : Reads W (.slice a n c) size n (ints zs)) (hl : zs.length = n * size) (k j : Nat) (hk : k < n) (hj : j < size) :
    ∃ b o, a = some ⟨b, o, none⟩ ∧ b < W.heap.size ∧ ∀ j, j < size → W.cell? ⟨b, o + (k * size + j), none⟩ = some (.int .i64 (zs.getD (k * size + j) 0)) := by
  have hlt : ∀ j, j < size → k * size + j < n * size := by
    intro j hj
    calc k * size + j < k * size + size := by omega
      _ = (k + 1) * size := by rw [Nat.succ_mul]
      _ ≤ n * size := Nat.mul_le_mul_right _ hk
  obtain ⟨b, o, rfl, hc⟩ := h.at (by have := hlt j hj; omega)
  have get : ∀ j, j < size → W.cell? ⟨b, o + (k * size + j), none⟩ = some (.int .i64 (zs.getD (k * size + j) 0)) := by
    intro j hj
    refine hc _ _ (ints_get ?_)
    have := hlt j hj
    simp [List.getD, List.getElem?_eq_getElem (show k * size + j < zs.length by omega)]
  exact ⟨b, o, rfl, World.block_lt_of_cell? _ _ (get j hj), get⟩

theorem getD_bd {zs : List Int} (h : ∀ z ∈ zs, -9223372036854775808 ≤ z ∧ z ≤ 9223372036854775807) (k : Nat) : -9223372036854775808 ≤ zs.getD k 0 ∧ zs.getD k 0 ≤ 9223372036854775807 := by
  by_cases hk : k < zs.length
  · refine h _ ?_
    simp [List.getD, List.getElem?_eq_getElem hk]
  · simp [List.getD, List.getElem?_eq_none (Nat.le_of_not_lt hk)]

end Go.Proofs.Ytjbphdjheklhbaa
