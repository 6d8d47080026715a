/-
  Iterators in the separation logic: what abides the turn of a loop's record; append in a round.
-/
import Derived.Test.YtfjdgjdkpmljkaaRow2
import Derived.RangeFuncNested
import Derived.RangeFuncBound
import Derived.RangeFuncCalls
import Derived.RangeFuncLeaves
import Derived.RangeFuncWrites
import Derived.Shelf.Abstract
import Derived.Shelf.RegionOpen
import Derived.WalkKit
import Derived.OwnWalkIn
import Derived.TacticsInMore
import Derived.LoopNIn
import Derived.LoopIn
namespace Go.Proofs.Ytfjdgjdkpmljkaa
open Go.RowKit Go.Shelf

/-- The part of a heap that is cells, or lies below B. -/
def filt (B : Nat) (h : PH) : PH := fun b => match h b with
  | some o => if o.isCells = true ∨ b < B then some o else none
  | none => none
theorem filt_some {B b : Nat} {h : PH} {o : Obj} : filt B h b = some o ↔ h b = some o ∧ (o.isCells = true ∨ b < B) := by
  unfold filt
  cases h b with
  | none => simp
  | some o' =>
    by_cases hc : o'.isCells = true ∨ b < B
    · simp only [hc, if_true, Option.some.injEq]
      constructor
      · rintro rfl; exact ⟨rfl, hc⟩
      · exact fun h => h.1
    · simp only [hc, if_false, Option.some.injEq]
      constructor
      · intro h; cases h
      · rintro ⟨rfl, h⟩; exact absurd h hc
theorem filt_none {B b : Nat} {h : PH} (hb : h b = none) : filt B h b = none := by unfold filt; rw [hb]

def Kept (B : Nat) (X : HP) : Prop := ∀ h, X h → X (filt B h)
def KeptL (B : Nat) (A : List HP) : Prop := ∀ h, Sat A h → Sat A (filt B h)
theorem KeptL.nil (B : Nat) : KeptL B [] := fun _ _ => trivial
theorem KeptL.cons {B : Nat} {X : HP} {A : List HP} (hX : Kept B X) (hA : KeptL B A) : KeptL B (X :: A) := by
  rintro h ⟨h1, h2, d, e1, e2, x, s⟩
  refine ⟨filt B h1, filt B h2, fun b => (d b).imp filt_none filt_none, ?_, ?_, hX _ x, hA _ s⟩
  · intro b o g
    have := filt_some.1 g
    exact filt_some.2 ⟨e1 _ _ this.1, this.2⟩
  · intro b o g
    have := filt_some.1 g
    exact filt_some.2 ⟨e2 _ _ this.1, this.2⟩
theorem Kept.pts {B b : Nat} {c : Array Value} {T : TypeId} {fz : Nat × Nat} : Kept B (pts b (.cells c T fz)) := fun _ h => filt_some.2 ⟨h, .inl rfl⟩
theorem Kept.pur {B : Nat} {p : Prop} : Kept B (pur p) := fun _ h => h
theorem Kept.exh {α : Type} {B : Nat} {f : α → HP} (h : ∀ x, Kept B (f x)) : Kept B (exh f) := fun _ ⟨x, g⟩ => ⟨x, h x _ g⟩
theorem Kept.grp {B : Nat} {L : List HP} (h : KeptL B L) : Kept B (grp L) := h
theorem Kept.row {B : Nat} {v : Value} {T : TypeId} {size n : Nat} {xs : List Value} : Kept B (row v T size n xs) := by
  rintro h ⟨hl, hx⟩
  refine ⟨hl, hx.imp id ?_⟩
  rintro ⟨g, cap, cur, rfl, hg, rest⟩
  exact ⟨g, cap, cur, rfl, filt_some.2 ⟨hg, .inl rfl⟩, rest⟩
/-- A part of a heap, whatever holds of it. -/
def frm (h2 : PH) : HP := fun h => ∀ b o, h2 b = some o → h b = some o
theorem Kept.frm {B : Nat} {h2 : PH} (hb : ∀ b o, h2 b = some o → b < B) : Kept B (frm h2) := fun _ h b o g => filt_some.2 ⟨h b o g, .inr (hb b o g)⟩

section
variable {en : Env} {w W W' : World} {A R : List HP} {X : HP} {B : Nat}

theorem Holds.toFrm (H : Holds en w (X :: R)) : ∃ h2 : PH, (∀ b o, h2 b = some o → b < w.heap.size) ∧ (∀ w' Y, Holds en w' (Y :: [frm h2]) → Holds en w' (Y :: R)) ∧ Holds en w (X :: [frm h2]) := by
  obtain ⟨h1, h2, d, e1, e2, x, s⟩ := H.sat
  refine ⟨h2, fun b o g => (Array.getElem?_eq_some_iff.1 (e2 b o g)).1, fun w' Y H' => H'.imp fun h => Sat.cons fun h' s' => ?_, H.os, H.output, H.tape, h1, h2, d, e1, e2, x, ?_⟩
  · obtain ⟨g1, g2, _, f1, _, y, _⟩ := s'
    exact s.mono fun b o g => f1 b o (y b o g)
  · exact ⟨h2, fun _ => none, fun _ => .inr rfl, fun _ _ g => g, fun _ _ g => (by cases g), fun _ _ g => g, trivial⟩

theorem Holds.abides (hA : KeptL B A) (H : Holds en W A) {rw : Option Nat} (hg : W.grownBy W' rw) (hr : ∀ r, rw = some r → B ≤ r ∧ ∃ o : Obj, W.heap[r]? = some o ∧ o.isCells = false) : Holds en W' A := by
  refine ⟨hg.os.trans H.os, hg.output.trans H.output, hg.tape.trans H.tape, (hA _ H.sat).mono fun b o g => ?_⟩
  have h := filt_some.1 g
  have hb : b < W.heap.size := (Array.getElem?_eq_some_iff.1 h.1).1
  refine (hg.block b hb fun e => ?_).trans h.1
  obtain ⟨h1, o', h2, h3⟩ := hr b e.symm
  rw [h.1] at h2
  cases h2
  rcases h.2 with h4 | h4
  · rw [h3] at h4; cases h4
  · omega

theorem Holds.ofBelow (H : Holds en w A) (hb : Below w.heap.size w W) : Holds en W A := by
  refine ⟨hb.os.trans H.os, hb.output.trans H.output, hb.tape.trans H.tape, H.sat.mono fun b o g => ?_⟩
  have h : b < w.heap.size := (Array.getElem?_eq_some_iff.1 g).1
  exact (hb.block b h).trans g

/-- Whatever of W is no cells and lies from B on. -/
def oth (B : Nat) (W : World) : HP := fun h => ∀ b o, B ≤ b → W.heap[b]? = some o → o.isCells = false → h b = some o
theorem Holds.addOth (hA : KeptL B A) (H : Holds en W A) : Holds en W (oth B W :: A) := by
  refine ⟨H.os, H.output, H.tape, (fun b => match W.heap[b]? with
    | some o => if o.isCells = true ∨ b < B then none else some o
    | none => none), filt B (fun b => W.heap[b]?), ?_, ?_, ?_, ?_, hA _ H.sat⟩
  · intro b
    cases hb : W.heap[b]? with
    | none => exact .inl (by simp [hb])
    | some o =>
      by_cases hc : o.isCells = true ∨ b < B
      · exact .inl (by simp [hb, hc])
      · refine .inr ?_
        unfold filt
        simp [hb, hc]
  · intro b o g
    cases hb : W.heap[b]? with
    | none => simp [hb] at g
    | some o' =>
      by_cases hc : o'.isCells = true ∨ b < B
      · simp [hb, hc] at g
      · simp [hb, hc] at g; rw [← g]; exact hb
  · intro b o g
    exact (filt_some.1 g).1
  · intro b o h1 h2 h3
    have hc : ¬ (o.isCells = true ∨ b < B) := by rw [h3]; simp; omega
    simp [h2, hc]
theorem Holds.keepsFrom (H : Holds en W' (oth B W :: A)) (hs : W.heap.size ≤ W'.heap.size) : KeepsFrom B W W' := by
  obtain ⟨h1, h2, d, e1, e2, x, s⟩ := H.sat
  exact ⟨hs, fun k o hk hw hc => e1 _ _ (x k o hk hw hc)⟩
end

section
variable {en : Env} {w : World} {R : List HP} {P : Program}
theorem run_append_slz (t ty e : TypeId) (size bytes : Nat) (hE : ElemOf P t e size bytes) (v : Value) (n : Nat) (xs : List Value) (H : Holds en w (row v e size n xs :: R))
    (x : Value) (m : Nat) (news : List Value) (hr : Reads w x size m news) (h1 : ∀ u ∈ news, u.oneCell' = true) (h63 : n + m ≤ maxLen) (hbytes : (n + m) * bytes ≤ 140737488355328) :
    ∃ v' w', (Builtin.append_ #[t, t] ty #[v, x]).run P w = .ok v' w' ∧ Holds en w' (row v' e size (n + m) (xs ++ news) :: R) ∧ w.heap.size ≤ w'.heap.size := by
  obtain ⟨i, z, ht, hi, hz, rfl, rfl, hzs, hsz⟩ := hE
  have hsmall : n + m ≤ 9223372036854775807 := by simp only [maxLen] at h63; omega
  obtain ⟨hxl, hx⟩ := row.open H
  obtain ⟨hnl, hx2⟩ := hr
  have hlen : (xs ++ news).length = (n + m) * i.size := by rw [List.length_append, hxl, hnl, Nat.add_mul]
  rcases hx2 with ⟨rfl, rfl⟩ | ⟨a, c, rfl, hc, hcell⟩
  · -- nothing is appended
    have hn0 : news = [] := List.eq_nil_of_length_eq_zero (by simpa using hnl)
    subst hn0
    refine ⟨v, w, ?_, by simpa using H, Nat.le_refl _⟩
    rcases hx with ⟨rfl, rfl⟩ | ⟨g, cap, cur, rfl, hcap, hm, hs, htk, H'⟩
    · simp [Builtin.append_, run_underlying ht, sizeOf, typeInfo, hi, Builtin.lenOf, Builtin.firstCells]
    · have hr := run_storeCells_at P g (n * i.size) e [] 0 cur w H'.get (by simp only [List.length_nil, Nat.add_zero, hs]; exact Nat.mul_le_mul_right _ hcap) (by simp)
      simp only [List.append_nil, Nat.add_zero, List.length_nil] at hr
      simp [Builtin.append_, run_underlying ht, sizeOf, typeInfo, hi, Builtin.lenOf, Builtin.firstCells, hcap, storeCells]
  · have grown : ∀ old : Nat, old < n + m → Holds en (w.drew.alloc (.cells (xs.toArray ++ news.toArray ++ Builtin.zeroCells z.cells (grownCap w (n + m) old e - (n + m))) e))
        (row (.slice (some ⟨w.heap.size, 0, none⟩) (n + m) (grownCap w (n + m) old e)) e i.size (n + m) (xs ++ news) :: R) := by
      intro old ho
      have hge := grownCap_ge w (n + m) old e
      have hcm : grownCap w (n + m) old e ≤ maxLen := grownCap_le_maxLen w (n + m) old e h63
      refine row.made (H.drop.drew.alloc _) hge hcm ?_ ?_
      · simp only [Array.size_append, List.size_toArray, size_zeroCells, hzs, hxl, hnl, ← Nat.add_mul]
        congr 1
        omega
      · simp only [Array.toList_append, List.append_assoc]
        rw [← List.append_assoc, ← hlen]
        exact List.take_left
    rcases hx with ⟨rfl, rfl⟩ | ⟨g, cap, cur, rfl, hcap, hm, hs, htk, H'⟩
    · have hx0 : xs = [] := List.eq_nil_of_length_eq_zero (by simpa using hxl)
      subst hx0
      by_cases hm0 : m = 0
      · subst hm0
        have hn : news = [] := List.eq_nil_of_length_eq_zero (by simpa using hnl)
        subst hn
        refine ⟨.slice none 0 0, w, ?_, H, Nat.le_refl _⟩
        simp [Builtin.append_, run_underlying ht, sizeOf, typeInfo, hi, Builtin.lenOf, Builtin.firstCells, loadCells, loadCellsFrom]
      · have hr := run_append_nil (P := P) w t ty e i z ht hi hz a m c news hnl hcell (by omega) (by omega) (by have hb := hbytes; simp only [Nat.zero_add] at hb; omega)
        have hgr := grown 0 (by omega)
        simp only [Nat.zero_add, List.nil_append, Array.empty_append] at hgr ⊢
        exact ⟨_, _, hr, hgr, by rw [World.size_alloc]; exact Nat.le_succ _⟩
    · by_cases hroom : n + m ≤ cap
      · have hfit : n * i.size + news.length ≤ cur.size := by rw [hnl, hs, ← Nat.add_mul]; exact Nat.mul_le_mul_right _ hroom
        have hr := run_append_room (P := P) w t ty e i ht hi g n cap cur H'.get a m c news hnl hcell h1 hroom hfit
        refine ⟨_, _, hr, row.made (H'.setObj (w' := w.setRow g _) rfl rfl rfl (setRow_heap w g cur _ e _ H'.get) (fun k hk => setRow_other w g k _ hk)) hroom hm ?_ ?_, by simp⟩
        · simp only [List.size_toArray, List.length_append, List.length_take, List.length_drop, Array.length_toList]
          omega
        · rw [htk, ← hlen]
          exact List.take_left
      · have holds : ∀ j u, xs[j]? = some u → w.cell? ((⟨g, 0, none⟩ : Addr).add j) = some u := by
          intro j u hj
          rw [Addr.add_at, Nat.zero_add, Holds.cellAny H'.get]
          rw [← htk] at hj
          simpa using (take_get hj).1
        have hr := run_append_grow (P := P) w t ty e i z ht hi hz ⟨g, 0, none⟩ n cap xs hxl holds a m c news hnl hcell (by omega) (by omega) (growslice_fits (by omega) hbytes)
        exact ⟨_, _, hr, grown cap (by omega), by rw [World.size_alloc]; exact Nat.le_succ _⟩


theorem wpListIn_append_sl {F : Fence} {nf : Nat} {ops : Array Oper} {rest : List Oper} {o : Oper} {a : Act} {Q : Exit → Act → World → Prop} (hgd : o.guard = none) (s x : Operand) (t : TypeId)
    (ho : o.op = .call { callee := .builtin .append, args := #[s, x], argTypes := #[t, t] })
    (e : TypeId) (size bytes : Nat) (hE : ElemOf P t e size bytes) (v : Value) (n : Nat) (xs : List Value) (hs : a.eval s = v) (H : Holds en w (row v e size n xs :: R))
    (vx : Value) (m : Nat) (news : List Value) (hx : a.eval x = vx) (hr : Reads w vx size m news) (h1 : ∀ u ∈ news, u.oneCell' = true)
    (h63 : n + m ≤ maxLen) (hbytes : (n + m) * bytes ≤ 140737488355328)
    (h : ∀ v' w', Holds en w' (row v' e size (n + m) (xs ++ news) :: R) → w.heap.size ≤ w'.heap.size → wpListIn F nf P ops Q rest (a.put o.dst v') w') : wpListIn F nf P ops Q (o :: rest) a w := by
  refine wpListIn_plain hgd fun K hK' => ?_
  obtain ⟨v', w', hrun, h2, h3⟩ := run_append_slz (P := P) t o.type e size bytes hE v n xs H vx m news hr h1 h63 hbytes
  unfold Oper.wpIn
  refine ⟨?_, ?_⟩
  · simp [Oper.about, ho, resolve, Target.leads, Sem.run_pure]
  · rw [Oper.semAt_plain F _ _ (by rw [ho]; intro c hc'; cases hc')]
    simp [execOp, ho, resolve, invoke, builtin, hs, hx, hrun, Result.andThen]
    exact hK' _ _ (h v' w' h2 h3)
end
end Go.Proofs.Ytfjdgjdkpmljkaa
