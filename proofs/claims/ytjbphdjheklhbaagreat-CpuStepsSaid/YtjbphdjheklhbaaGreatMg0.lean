import Derived.Test.YtjbphdjheklhbaaGreatRows
import Derived.WalkKit
import Derived.WalkSpells
import Derived.WalkLawsBesides
import Derived.Deep.QuietTactic
import Derived.BigQuiet
import Derived.Lib.Hide
import Derived.StillTailTactics
import Derived.Deep.RegionWith
import Derived.ProofKit
import Derived.OpenShut
import Derived.Deep.Fields
import Derived.BigRegion
import Derived.Laws.MakeOwn
import Derived.Laws.BitsAllLaws
import Derived.Laws.Bits64
import Derived.Maps.Own
import Derived.Maps.OwnSet
import Derived.Lib.SlKeysI
import Derived.Deep.RegionHeld3
/-
  A small separation logic over the model's heap: assertions are predicates over partial heaps, a symbolic heap is a list of assertions that hold of disjoint parts of the heap. No program in sight.
-/
namespace Go.Proofs.YtjbphdjheklhbaaGreat
open Go.RowKit

abbrev PH := Nat → Option Obj
abbrev HP := PH → Prop

structure Env where
  os : Os
  output : Array (Nat × ByteArray)
  tape : Nat → Question → Nat

/-- The assertions hold of disjoint parts. -/
def Sat : List HP → PH → Prop
  | [], _ => True
  | X :: A, h => ∃ h1 h2 : PH, (∀ b, h1 b = none ∨ h2 b = none) ∧ (∀ b o, h1 b = some o → h b = some o) ∧ (∀ b o, h2 b = some o → h b = some o) ∧ X h1 ∧ Sat A h2

structure Holds (e : Env) (w : World) (A : List HP) : Prop where
  os : w.os = e.os
  output : w.output = e.output
  tape : w.tape = e.tape
  sat : Sat A (fun b => w.heap[b]?)

def pts (b : Nat) (o : Obj) : HP := fun h => h b = some o
def pur (p : Prop) : HP := fun _ => p
def grp (L : List HP) : HP := fun h => Sat L h
def exh {α : Type} (f : α → HP) : HP := fun h => ∃ x, f x h
/-- All that the world W holds. -/
def base (W : World) : HP := fun h => ∀ b o, W.heap[b]? = some o → h b = some o

def Take (A : List HP) (X : HP) (R : List HP) : Prop := ∀ h, Sat A h → Sat (X :: R) h

theorem Sat.mono {A : List HP} {h h' : PH} (hs : Sat A h) (hh : ∀ b o, h b = some o → h' b = some o) : Sat A h' := by
  cases A with
  | nil => trivial
  | cons X A =>
    obtain ⟨h1, h2, d, e1, e2, x, s⟩ := hs
    exact ⟨h1, h2, d, fun b o g => hh b o (e1 b o g), fun b o g => hh b o (e2 b o g), x, s⟩

theorem Take.here (X : HP) (R : List HP) : Take (X :: R) X R := fun _ h => h

theorem Take.there {A R : List HP} {X : HP} (Y : HP) (t : Take A X R) : Take (Y :: A) X (Y :: R) := by
  intro h ⟨h1, h2, d, e1, e2, y, s⟩
  obtain ⟨g1, g2, d', f1, f2, x, s'⟩ := t h2 s
  refine ⟨g1, fun b => (h1 b).or (g2 b), ?_, fun b o g => e2 b o (f1 b o g), ?_, x, h1, g2, ?_, ?_, ?_, y, s'⟩
  · intro b
    rcases d' b with q | q
    · exact .inl q
    · rcases d b with r | r
      · exact .inr (by simp [r, q])
      · refine .inl ?_
        cases hg : g1 b with
        | none => rfl
        | some o => rw [f1 b o hg] at r; cases r
  · intro b o g
    cases hh : h1 b with
    | some o' => simp [hh] at g; subst g; exact e1 b _ hh
    | none => simp [hh] at g; exact e2 b _ (f2 b _ g)
  · intro b
    rcases d b with r | r
    · exact .inl r
    · refine .inr ?_
      cases hg : g2 b with
      | none => rfl
      | some o => rw [f2 b o hg] at r; cases r
  · intro b o g; simp [g]
  · intro b o g
    rcases d b with r | r
    · simp [r, g]
    · rw [f2 b o g] at r; cases r

theorem Sat.cons {X : HP} {A A' : List HP} (f : ∀ h, Sat A h → Sat A' h) {h : PH} (s : Sat (X :: A) h) : Sat (X :: A') h :=
  let ⟨h1, h2, d, e1, e2, x, s⟩ := s
  ⟨h1, h2, d, e1, e2, x, f h2 s⟩

theorem Sat.head {X Y : HP} {A : List HP} (f : ∀ h, X h → Y h) {h : PH} (s : Sat (X :: A) h) : Sat (Y :: A) h :=
  let ⟨h1, h2, d, e1, e2, x, s⟩ := s
  ⟨h1, h2, d, e1, e2, f _ x, s⟩

theorem Sat.drop {X : HP} {A : List HP} {h : PH} (s : Sat (X :: A) h) : Sat A h :=
  let ⟨_, _, _, _, e2, _, s⟩ := s
  s.mono e2

theorem Sat.append {L A : List HP} {h : PH} : Sat (L ++ A) h ↔ Sat (grp L :: A) h := by
  induction L generalizing h with
  | nil =>
    refine ⟨fun s => ⟨fun _ => none, h, fun b => .inl rfl, fun b o g => (by cases g), fun b o g => g, trivial, s⟩, fun s => s.drop⟩
  | cons X L ih =>
    constructor
    · intro s
      obtain ⟨h1, h2, d, e1, e2, x, s⟩ := s
      obtain ⟨g1, g2, d', f1, f2, l, a⟩ := ih.1 s
      refine ⟨fun b => (h1 b).or (g1 b), g2, ?_, ?_, fun b o g => e2 b o (f2 b o g), ⟨h1, g1, ?_, ?_, ?_, x, l⟩, a⟩
      · intro b
        rcases d' b with q | q
        · rcases d b with r | r
          · exact .inl (by simp [r, q])
          · refine .inr ?_
            cases hg : g2 b with
            | none => rfl
            | some o => rw [f2 b o hg] at r; cases r
        · exact .inr q
      · intro b o g
        cases hh : h1 b with
        | some o' => simp [hh] at g; subst g; exact e1 b _ hh
        | none => simp [hh] at g; exact e2 b _ (f1 b _ g)
      · intro b
        rcases d b with r | r
        · exact .inl r
        · refine .inr ?_
          cases hg : g1 b with
          | none => rfl
          | some o => rw [f1 b o hg] at r; cases r
      · intro b o g; simp [g]
      · intro b o g
        rcases d b with r | r
        · simp [r, g]
        · rw [f1 b o g] at r; cases r
    · intro s
      obtain ⟨u, g2, d, e1, e2, ⟨h1, g1, d', f1, f2, x, l⟩, a⟩ := s
      refine ⟨h1, fun b => (g1 b).or (g2 b), ?_, fun b o g => e1 b o (f1 b o g), ?_, x, ih.2 ⟨g1, g2, ?_, fun b o g => by simp [g], ?_, l, a⟩⟩
      · intro b
        rcases d' b with q | q
        · exact .inl q
        · rcases d b with r | r
          · refine .inl ?_
            cases hg : h1 b with
            | none => rfl
            | some o => rw [f1 b o hg] at r; cases r
          · exact .inr (by simp [r, q])
      · intro b o g
        cases hh : g1 b with
        | some o' => simp [hh] at g; subst g; exact e1 b _ (f2 b _ hh)
        | none => simp [hh] at g; exact e2 b _ g
      · intro b
        rcases d b with r | r
        · refine .inl ?_
          cases hg : g1 b with
          | none => rfl
          | some o => rw [f2 b o hg] at r; cases r
        · exact .inr r
      · intro b o g
        rcases d b with r | r
        · cases hg : g1 b with
          | none => simp [hg, g]
          | some o => rw [f2 b o hg] at r; cases r
        · rw [g] at r; cases r

section
variable {e : Env} {w w' : World} {A R : List HP} {X Y : HP}

theorem Holds.take (h : Holds e w A) (t : Take A X R) : Holds e w (X :: R) := ⟨h.os, h.output, h.tape, t _ h.sat⟩
theorem Holds.imp (h : Holds e w A) (f : ∀ h, Sat A h → Sat R h) : Holds e w R := ⟨h.os, h.output, h.tape, f _ h.sat⟩
theorem Holds.head (h : Holds e w (X :: A)) (f : ∀ h, X h → Y h) : Holds e w (Y :: A) := h.imp fun _ => Sat.head f
theorem Holds.drop (h : Holds e w (X :: A)) : Holds e w A := h.imp fun _ => Sat.drop
theorem Holds.ungrp {L : List HP} (h : Holds e w (grp L :: A)) : Holds e w (L ++ A) := h.imp fun _ => Sat.append.2
theorem Holds.mkGrp {L : List HP} (h : Holds e w (L ++ A)) : Holds e w (grp L :: A) := h.imp fun _ => Sat.append.1
theorem Holds.exE {α : Type} {f : α → HP} (h : Holds e w (exh f :: A)) : ∃ x, Holds e w (f x :: A) := by
  obtain ⟨o, p, t, h1, h2, d, e1, e2, ⟨x, hx⟩, s⟩ := h
  exact ⟨x, o, p, t, h1, h2, d, e1, e2, hx, s⟩
theorem Holds.mkExh {α : Type} {f : α → HP} (x : α) (h : Holds e w (f x :: A)) : Holds e w (exh f :: A) := h.head fun _ g => ⟨x, g⟩
theorem Holds.purE {p : Prop} (h : Holds e w (pur p :: A)) : p := by
  obtain ⟨_, _, _, h1, h2, d, e1, e2, x, s⟩ := h
  exact x
theorem Holds.mkPur {p : Prop} (hp : p) (h : Holds e w A) : Holds e w (pur p :: A) :=
  ⟨h.os, h.output, h.tape, fun _ => none, _, fun b => .inl rfl, fun b o g => (by cases g), fun b o g => g, hp, h.sat⟩
theorem Holds.get {b : Nat} {o : Obj} (h : Holds e w (pts b o :: A)) : w.heap[b]? = some o := by
  obtain ⟨_, _, _, h1, h2, d, e1, e2, x, s⟩ := h
  exact e1 b o x
theorem Holds.baseE {W : World} (h : Holds e w (base W :: A)) {b : Nat} (hb : b < W.heap.size) : w.heap[b]? = W.heap[b]? := by
  obtain ⟨_, _, _, h1, h2, d, e1, e2, x, s⟩ := h
  have := x b W.heap[b] (Array.getElem?_eq_getElem hb)
  rw [Array.getElem?_eq_getElem hb]
  exact e1 b _ this
theorem Holds.baseSize {W : World} (h : Holds e w (base W :: A)) : W.heap.size ≤ w.heap.size := by
  apply Classical.byContradiction
  intro hn
  have h1 : w.heap.size < W.heap.size := by omega
  have := h.baseE (b := w.heap.size) h1
  rw [Array.getElem?_eq_none (Nat.le_refl _), Array.getElem?_eq_getElem h1] at this
  cases this
theorem Holds.below {W : World} (h : Holds e w (base W :: A)) (h1 : W.os = e.os) (h2 : W.output = e.output) (h3 : W.tape = e.tape) : Below W.heap.size W w :=
  ⟨h.os.trans h1.symm, h.tape.trans h3.symm, h.output.trans h2.symm, h.baseSize, fun _ hk => h.baseE hk⟩
theorem Holds.start (W : World) : Holds ⟨W.os, W.output, W.tape⟩ W [base W] :=
  ⟨rfl, rfl, rfl, fun b => W.heap[b]?, fun _ => none, fun _ => .inr rfl, fun _ _ g => g, fun _ _ g => (by cases g), fun _ _ g => g, trivial⟩

theorem Holds.cell {b i : Nat} {c : Array Value} {T : TypeId} {fz : Nat × Nat} {v : Value} (h : Holds e w (pts b (.cells c T fz) :: A)) (hv : c[i]? = some v) : w.cell? ⟨b, i, none⟩ = some v := by
  simp [World.cell?, h.get, hv]
theorem Holds.cells {b : Nat} {c : Array Value} {T : TypeId} {fz : Nat × Nat} (h : Holds e w (pts b (.cells c T fz) :: A)) : ∀ i, w.cell? ⟨b, i, none⟩ = c[i]? := by
  intro i; simp [World.cell?, h.get]
theorem Holds.frozen {b : Nat} {c : Array Value} {T : TypeId} (h : Holds e w (pts b (.cells c T (0, 0)) :: A)) : ∀ i, w.frozen? ⟨b, i, none⟩ = false := by
  intro i; simp [World.frozen?, h.get]
theorem Holds.lt {b : Nat} {o : Obj} (h : Holds e w (pts b o :: A)) : b < w.heap.size := by
  have := h.get
  exact (Array.getElem?_eq_some_iff.1 this).1
theorem Holds.ne {b b' : Nat} {o o' : Obj} (h : Holds e w (pts b o :: pts b' o' :: A)) : b ≠ b' := by
  obtain ⟨_, _, _, h1, h2, d, e1, e2, x, g1, g2, d', f1, f2, y, s⟩ := h
  rintro rfl
  rcases d b with r | r
  · rw [show h1 b = some o from x] at r; cases r
  · rw [f1 b o' y] at r; cases r

theorem Holds.drew (h : Holds e w A) : Holds e w.drew A := ⟨h.os, h.output, h.tape, h.sat⟩
theorem Holds.drewN (h : Holds e w A) (n : Nat) : Holds e (w.drewN n) A := by
  induction n with
  | zero => exact h
  | succ n ih => exact ih.drew
theorem Holds.drawn (h : Holds e w A) (n : Nat) : Holds e { w with drawn := n } A := ⟨h.os, h.output, h.tape, h.sat⟩

theorem Holds.alloc (h : Holds e w A) (o : Obj) : Holds e (w.alloc o) (pts w.heap.size o :: A) := by
  refine ⟨h.os, h.output, h.tape, fun b => if b = w.heap.size then some o else none, fun b => w.heap[b]?, ?_, ?_, ?_, by simp [pts], h.sat⟩
  · intro b
    by_cases hb : b = w.heap.size
    · right; subst hb; simp
    · left; simp [hb]
  · intro b o' g
    by_cases hb : b = w.heap.size
    · subst hb; simp at g; subst g; show (w.heap.push _)[w.heap.size]? = _; simp
    · simp [hb] at g
  · intro b o' g
    have : b < w.heap.size := (Array.getElem?_eq_some_iff.1 g).1
    exact (Below.heap_alloc w o _ this).trans g

theorem Holds.allocAt (h : Holds e w A) {o : Obj} {b : Nat} (hb : w.heap.size = b) : Holds e (w.alloc o) (pts b o :: A) := hb ▸ h.alloc o

theorem Holds.setObj {b : Nat} {o o' : Obj} (h : Holds e w (pts b o :: A)) (hos : w'.os = w.os) (hout : w'.output = w.output) (ht : w'.tape = w.tape) (hb : w'.heap[b]? = some o') (hne : ∀ k, k ≠ b → w'.heap[k]? = w.heap[k]?) : Holds e w' (pts b o' :: A) := by
  obtain ⟨p, q, r, h1, h2, d, e1, e2, x, s⟩ := h
  have h2b : h2 b = none := by
    rcases d b with g | g
    · rw [show h1 b = some o from x] at g; cases g
    · exact g
  refine ⟨hos.trans p, hout.trans q, ht.trans r, fun k => if k = b then some o' else none, h2, ?_, ?_, ?_, by simp [pts], s⟩
  · intro k
    by_cases hk : k = b
    · right; subst hk; exact h2b
    · left; simp [hk]
  · intro k u g
    by_cases hk : k = b
    · subst hk; simp at g; subst g; exact hb
    · simp [hk] at g
  · intro k u g
    have hk : k ≠ b := by rintro rfl; rw [h2b] at g; cases g
    show w'.heap[k]? = some u
    rw [hne k hk]
    exact e2 k u g

theorem Holds.set {b : Nat} {c : Array Value} {T : TypeId} {fz : Nat × Nat} (h : Holds e w (pts b (.cells c T fz) :: A)) (i : Nat) (v : Value) :
    Holds e (w.setCell ⟨b, i, none⟩ v) (pts b (.cells (c.setIfInBounds i v) T fz) :: A) := by
  refine h.setObj rfl rfl rfl ?_ fun k hk => ?_
  · simp [World.setCell, Array.getElem?_modify, h.get]
  · simp only [World.setCell, Array.getElem?_modify]
    rw [if_neg (fun e => hk e.symm)]

theorem Take.trans1 {A R R' : List HP} {X Y : HP} (t : Take A X R) (t' : Take R Y R') : ∀ h, Sat A h → Sat (X :: Y :: R') h := fun h s => Sat.cons t' (t h s)

/-- The world with a store into one of the blocks. -/
theorem Holds.set' {b : Nat} {c : Array Value} {T : TypeId} {fz : Nat × Nat} (h : Holds e w A) (t : Take A (pts b (.cells c T fz)) R) (i : Nat) (v : Value) :
    Holds e (w.setCell ⟨b, i, none⟩ v) (pts b (.cells (c.setIfInBounds i v) T fz) :: R) := (h.take t).set i v
theorem Holds.cells' {b : Nat} {c : Array Value} {T : TypeId} {fz : Nat × Nat} (h : Holds e w A) (t : Take A (pts b (.cells c T fz)) R) : ∀ i, w.cell? ⟨b, i, none⟩ = c[i]? := (h.take t).cells
end

/-- The call answered v, and the assertions hold. -/
def Ret (e : Env) (v : Value) (A : List HP) : Ending → World → Prop := fun en w' => en = .returned v ∧ Holds e w' A
def RetEx {α : Type} (e : Env) (v : α → Value) (A : α → List HP) : Ending → World → Prop := fun en w' => ∃ x, en = .returned (v x) ∧ Holds e w' (A x)
/-- The call answered v, and has drawn at most. -/
def Quiet (w : World) (v : Value) : Ending → World → Prop := fun en w' => en = .returned v ∧ ∃ n, w' = w.drewN n

theorem retQ {P : Program} {f : FuncId} {args : Array Value} {e : Env} {w : World} {v : Value} {A : List HP} (h : Calls P f args w (Quiet w v)) (H : Holds e w A) : Calls P f args w (Ret e v A) :=
  h.mono fun _ _ ⟨h1, n, h2⟩ => ⟨h1, by rw [h2]; exact H.drewN n⟩
theorem retC {P : Program} {f : FuncId} {args : Array Value} {e : Env} {w : World} {v : Value} {A B : List HP} (h : Calls P f args w (Ret e v A)) (hB : ∀ w', Holds e w' A → Holds e w' B) : Calls P f args w (Ret e v B) :=
  h.mono fun _ _ ⟨h1, h2⟩ => ⟨h1, hB _ h2⟩

/-- A region that draws its order, whose operations read and whose calls keep the assertions: one walk in the order of the text. -/
theorem wp_region_holds {P : Program} {I : Type} {W : I → World} {e : Env} {A : List HP} {id : Nat} {Q : Exit → Act → World → Prop} {a : Act} {w : World} {l : List Oper}
    (hWs : ∀ w', Holds e w' A → ∃ i, w' = W i) (H : Holds e w A) (hm : P.follows .mixedOrders = true) (hB : Region.lexB .any l.toArray = true)
    (h : wpQuiet P l.toArray (fun w' => ∃ i, w' = W i) (fun a' => ∀ w', (∃ i, w' = W i) → Q .normal a' w') l a) : (Code.region id l.toArray true).wp P Q a w :=
  wp_region_quiet (C := fun w' => ∃ i, w' = W i) hm hB (hWs _ (H.drawn _)) (by simpa using h)

theorem worlds_of {e : Env} {A : List HP} {w : World} (H : Holds e w A) : ∃ (I : Type) (W : I → World), Nonempty I ∧ (∀ i, Holds e (W i) A) ∧ (∀ w', Holds e w' A → ∃ i, w' = W i) :=
  ⟨{ w // Holds e w A }, Subtype.val, ⟨⟨w, H⟩⟩, fun i => i.2, fun w h => ⟨⟨w, h⟩, rfl⟩⟩

theorem quietH {P : Program} {f : FuncId} {args : Array Value} {e : Env} {A : List HP} {v : Value} {I : Type} {W : I → World} {w : World} (h : Calls P f args w (Ret e v A)) (hWs : ∀ w', Holds e w' A → ∃ i, w' = W i) :
    Calls P f args w (fun en w'' => en = .returned v ∧ ∃ m, w'' = W m) :=
  h.mono fun _ _ ⟨h1, h2⟩ => ⟨h1, hWs _ h2⟩

theorem quietQ {P : Program} {f : FuncId} {args : Array Value} {e : Env} {A : List HP} {v : Value} {I : Type} {W : I → World} {w : World} (h : Calls P f args w (Quiet w v)) (H : Holds e w A) (hWs : ∀ w', Holds e w' A → ∃ i, w' = W i) :
    Calls P f args w (fun en w'' => en = .returned v ∧ ∃ m, w'' = W m) := quietH (retQ h H) hWs

theorem Holds.swap {e : Env} {w : World} {X Y : HP} {A : List HP} (h : Holds e w (X :: Y :: A)) : Holds e w (Y :: X :: A) := h.take (Take.there _ (Take.here _ _))

/-- The world behind a variable again: what is known of it is what it holds. -/
theorem bodyPost_at {P : Program} {fn : Func} {Q : Ending → World → Prop} {ex : Exit} {a : Act} {e : Env} {w : World} {A : List HP} (H : Holds e w A) (h : ∀ w', Holds e w' A → bodyPost P fn Q ex a w') : bodyPost P fn Q ex a w := h w H
theorem code_at {P : Program} {c : Code} {Q : Exit → Act → World → Prop} {a : Act} {e : Env} {w : World} {A : List HP} (H : Holds e w A) (h : ∀ w', Holds e w' A → c.wp P Q a w') : c.wp P Q a w := h w H
theorem calls_at {P : Program} {f : FuncId} {args : Array Value} {Q : Ending → World → Prop} {e : Env} {w : World} {A : List HP} (H : Holds e w A) (h : ∀ w', Holds e w' A → Calls P f args w' Q) : Calls P f args w Q := h w H

end Go.Proofs.YtjbphdjheklhbaaGreat

/-
  Slices in the separation logic: a row that is owned, what is read through a slice, and the law of append.
-/
namespace Go.Proofs.YtjbphdjheklhbaaGreat
open Go.RowKit

/-- v is a slice of n elements of size cells each, which owns its block; its cells are xs. -/
def row (v : Value) (e : TypeId) (size n : Nat) (xs : List Value) : HP := fun h =>
  xs.length = n * size ∧ ((v = .slice none 0 0 ∧ n = 0) ∨
    ∃ g cap cur, v = .slice (some ⟨g, 0, none⟩) n cap ∧ h g = some (.cells cur e (0, 0)) ∧ n ≤ cap ∧ cap ≤ maxLen ∧ cur.size = cap * size ∧ cur.toList.take (n * size) = xs)

/-- Through v the cells xs are read. -/
def Reads (w : World) (v : Value) (size n : Nat) (xs : List Value) : Prop :=
  xs.length = n * size ∧ ((v = .slice none 0 0 ∧ n = 0) ∨
    ∃ a cap, v = .slice (some a) n cap ∧ n ≤ cap ∧ ∀ j u, xs[j]? = some u → w.cell? (a.add j) = some u)

/-- t is a slice type over e. -/
def ElemOf (P : Program) (t e : TypeId) (size bytes : Nat) : Prop :=
  ∃ i z, P.underlying t = some (.slice e) ∧ P.info? e = some i ∧ i.zero = some z ∧ i.size = size ∧ i.bytes = bytes ∧ z.cells.size = size ∧ 0 < size

theorem ElemOf.mk {P : Program} {t e : TypeId} {size bytes : Nat} {z : Value} (ht : P.underlying t = some (.slice e))
    (hi : (P.info? e).map (fun i => (i.zero, i.size, i.bytes)) = some (some z, size, bytes)) (hz : z.cells.size = size) (hs : 0 < size) : ElemOf P t e size bytes := by
  cases h : P.info? e with
  | none => rw [h] at hi; cases hi
  | some i =>
    rw [h] at hi
    simp at hi
    exact ⟨i, z, ht, h, hi.1, hi.2.1, hi.2.2, hz, hs⟩

theorem take_get {α : Type} {l : List α} {n j : Nat} {u : α} (h : (l.take n)[j]? = some u) : l[j]? = some u ∧ j < n := by
  rw [List.getElem?_take] at h
  split at h
  · exact ⟨h, by assumption⟩
  · cases h

section
variable {P : Program} {en : Env} {w w' : World} {A R : List HP}

theorem Holds.cellAny {b : Nat} {c : Array Value} {T : TypeId} {fz : Nat × Nat} (h : w.heap[b]? = some (.cells c T fz)) (i : Nat) : w.cell? ⟨b, i, none⟩ = c[i]? := by
  simp [World.cell?, h]

theorem row.reads {v : Value} {e : TypeId} {size n : Nat} {xs : List Value} (h : Holds en w (row v e size n xs :: R)) : Reads w v size n xs := by
  obtain ⟨_, _, _, h1, h2, d, e1, e2, ⟨hl, x⟩, s⟩ := h
  refine ⟨hl, ?_⟩
  rcases x with ⟨rfl, rfl⟩ | ⟨g, cap, cur, rfl, hg, hn, hm, hs, ht⟩
  · exact .inl ⟨rfl, rfl⟩
  · refine .inr ⟨_, _, rfl, hn, fun j u hj => ?_⟩
    have hb : w.heap[g]? = some (.cells cur e (0, 0)) := e1 g _ hg
    have : (⟨g, 0, none⟩ : Addr).add j = ⟨g, j, none⟩ := by
      unfold Addr.add; split
      · rename_i h; subst h; rfl
      · simp
    rw [this, Holds.cellAny hb]
    rw [← ht] at hj
    have hj' := take_get hj
    simpa using hj'.1

theorem Reads.len {v : Value} {size n : Nat} {xs : List Value} (h : Reads w v size n xs) : xs.length = n * size := h.1

theorem Reads.keep {v : Value} {size n : Nat} {xs : List Value} (h : Reads w v size n xs) (hk : ∀ b o, b < w.heap.size → w'.cell? ⟨b, o, none⟩ = w.cell? ⟨b, o, none⟩) : Reads w' v size n xs := by
  refine ⟨h.1, h.2.imp id ?_⟩
  rintro ⟨a, cap, rfl, hc, hr⟩
  refine ⟨a, cap, rfl, hc, fun j u hj => ?_⟩
  have := hr j u hj
  have hlt := World.block_lt_of_cell? _ _ this
  have hsp : (a.add j).spot = none := by
    unfold World.cell? at this
    split at this
    · cases hs : (a.add j).spot with
      | none => rfl
      | some x => simp [hs] at this
    · cases this
  rw [← this]
  have e : a.add j = ⟨(a.add j).block, (a.add j).off, none⟩ := by rw [← hsp]
  rw [e]
  exact hk _ _ hlt

theorem Reads.alloc {v : Value} {size n : Nat} {xs : List Value} (h : Reads w v size n xs) (o : Obj) : Reads (w.alloc o) v size n xs :=
  h.keep fun b _ hb => World.cell?_of_block (w := w) (Below.heap_alloc w o b hb)

theorem Reads.drewN {v : Value} {size n k : Nat} {xs : List Value} (h : Reads w v size n xs) : Reads (w.drewN k) v size n xs := h

/-- A slice that reads in the base world reads in each world that holds the base. -/
theorem Reads.based {W : World} {v : Value} {size n : Nat} {xs : List Value} (h : Reads W v size n xs) (H : Holds en w (base W :: R)) : Reads w v size n xs :=
  h.keep fun _ _ hb => World.cell?_of_block (w := W) (H.baseE hb)

theorem row.nil (e : TypeId) (size : Nat) (H : Holds en w A) : Holds en w (row (.slice none 0 0) e size 0 [] :: A) :=
  ⟨H.os, H.output, H.tape, fun _ => none, _, fun b => .inl rfl, fun b o g => (by cases g), fun b o g => g, ⟨by simp, .inl ⟨rfl, rfl⟩⟩, H.sat⟩

theorem row.made {e : TypeId} {size cap n b : Nat} {cur : Array Value} {xs : List Value} (H : Holds en w (pts b (.cells cur e (0, 0)) :: A)) (hn : n ≤ cap) (hm : cap ≤ maxLen)
    (hs : cur.size = cap * size) (hx : cur.toList.take (n * size) = xs) : Holds en w (row (.slice (some ⟨b, 0, none⟩) n cap) e size n xs :: A) :=
  H.head fun h g => ⟨by rw [← hx]; simp only [List.length_take, Array.length_toList, hs]; exact Nat.min_eq_left (Nat.mul_le_mul_right _ hn), .inr ⟨b, cap, cur, rfl, g, hn, hm, hs, hx⟩⟩

/-- What an owned row is: nil, or a block. -/
theorem row.open {v : Value} {e : TypeId} {size n : Nat} {xs : List Value} (H : Holds en w (row v e size n xs :: A)) :
    xs.length = n * size ∧ ((v = .slice none 0 0 ∧ n = 0) ∨ ∃ g cap cur, v = .slice (some ⟨g, 0, none⟩) n cap ∧ n ≤ cap ∧ cap ≤ maxLen ∧ cur.size = cap * size ∧ cur.toList.take (n * size) = xs ∧ Holds en w (pts g (.cells cur e (0, 0)) :: A)) := by
  obtain ⟨o1, o2, o3, h1, h2, d, e1, e2, ⟨hl, x⟩, s⟩ := H
  refine ⟨hl, x.imp id ?_⟩
  rintro ⟨g, cap, cur, rfl, hg, hn, hm, hs, ht⟩
  exact ⟨g, cap, cur, rfl, hn, hm, hs, ht, o1, o2, o3, h1, h2, d, e1, e2, hg, s⟩

theorem Addr.add_at (g o j : Nat) : (⟨g, o, none⟩ : Addr).add j = ⟨g, o + j, none⟩ := by
  unfold Addr.add; split
  · rename_i h; subst h; rfl
  · rfl

theorem run_append_sl (t ty e : TypeId) (size bytes : Nat) (hE : ElemOf P t e size bytes) (v : Value) (n : Nat) (xs : List Value) (H : Holds en w (row v e size n xs :: R))
    (x : Value) (m : Nat) (news : List Value) (hr : Reads w x size m news) (h1 : ∀ u ∈ news, u.oneCell' = true) (h63 : n + m ≤ maxLen) (hbytes : (n + m) * bytes ≤ 140737488355328) :
    ∃ v' w', (Builtin.append_ #[t, t] ty #[v, x]).run P w = .ok v' w' ∧ Holds en w' (row v' e size (n + m) (xs ++ news) :: R) := by
  obtain ⟨i, z, ht, hi, hz, rfl, rfl, hzs, hsz⟩ := hE
  have hsmall : n + m ≤ 9223372036854775807 := by simp only [maxLen] at h63; omega
  obtain ⟨hxl, hx⟩ := row.open H
  obtain ⟨hnl, hx2⟩ := hr
  have hlen : (xs ++ news).length = (n + m) * i.size := by rw [List.length_append, hxl, hnl, Nat.add_mul]
  rcases hx2 with ⟨rfl, rfl⟩ | ⟨a, c, rfl, hc, hcell⟩
  · -- nothing is appended
    have hn0 : news = [] := List.eq_nil_of_length_eq_zero (by simpa using hnl)
    subst hn0
    refine ⟨v, w, ?_, by simpa using H⟩
    rcases hx with ⟨rfl, rfl⟩ | ⟨g, cap, cur, rfl, hcap, hm, hs, htk, H'⟩
    · simp [Builtin.append_, run_underlying ht, sizeOf, typeInfo, hi, Builtin.lenOf, Builtin.firstCells]
    · have hr := run_storeCells_at P g (n * i.size) e [] 0 cur w H'.get (by simp only [List.length_nil, Nat.add_zero, hs]; exact Nat.mul_le_mul_right _ hcap) (by simp)
      simp only [List.append_nil, Nat.add_zero, List.length_nil] at hr
      simp [Builtin.append_, run_underlying ht, sizeOf, typeInfo, hi, Builtin.lenOf, Builtin.firstCells, hcap, storeCells]
  · have grown : ∀ old : Nat, old < n + m → Holds en (w.drew.alloc (.cells (xs.toArray ++ news.toArray ++ Builtin.zeroCells z.cells (grownCap w (n + m) old e - (n + m))) e))
        (row (.slice (some ⟨w.heap.size, 0, none⟩) (n + m) (grownCap w (n + m) old e)) e i.size (n + m) (xs ++ news) :: R) := by
      intro old ho
      have hge := grownCap_ge w (n + m) old e
      have hcm : grownCap w (n + m) old e ≤ maxLen := grownCap_le_maxLen w (n + m) old e h63
      refine row.made (H.drop.drew.alloc _) hge hcm ?_ ?_
      · simp only [Array.size_append, List.size_toArray, size_zeroCells, hzs, hxl, hnl, ← Nat.add_mul]
        congr 1
        omega
      · simp only [Array.toList_append, List.append_assoc]
        rw [← List.append_assoc, ← hlen]
        exact List.take_left
    rcases hx with ⟨rfl, rfl⟩ | ⟨g, cap, cur, rfl, hcap, hm, hs, htk, H'⟩
    · have hx0 : xs = [] := List.eq_nil_of_length_eq_zero (by simpa using hxl)
      subst hx0
      by_cases hm0 : m = 0
      · subst hm0
        have hn : news = [] := List.eq_nil_of_length_eq_zero (by simpa using hnl)
        subst hn
        refine ⟨.slice none 0 0, w, ?_, H⟩
        simp [Builtin.append_, run_underlying ht, sizeOf, typeInfo, hi, Builtin.lenOf, Builtin.firstCells, loadCells, loadCellsFrom]
      · have hr := run_append_nil (P := P) w t ty e i z ht hi hz a m c news hnl hcell (by omega) (by omega) (by have hb := hbytes; simp only [Nat.zero_add] at hb; omega)
        have hgr := grown 0 (by omega)
        simp only [Nat.zero_add, List.nil_append, Array.empty_append] at hgr ⊢
        exact ⟨_, _, hr, hgr⟩
    · by_cases hroom : n + m ≤ cap
      · have hfit : n * i.size + news.length ≤ cur.size := by rw [hnl, hs, ← Nat.add_mul]; exact Nat.mul_le_mul_right _ hroom
        have hr := run_append_room (P := P) w t ty e i ht hi g n cap cur H'.get a m c news hnl hcell h1 hroom hfit
        refine ⟨_, _, hr, row.made (H'.setObj (w' := w.setRow g _) rfl rfl rfl (setRow_heap w g cur _ e _ H'.get) (fun k hk => setRow_other w g k _ hk)) hroom hm ?_ ?_⟩
        · simp only [List.size_toArray, List.length_append, List.length_take, List.length_drop, Array.length_toList]
          omega
        · rw [htk, ← hlen]
          exact List.take_left
      · have holds : ∀ j u, xs[j]? = some u → w.cell? ((⟨g, 0, none⟩ : Addr).add j) = some u := by
          intro j u hj
          rw [Addr.add_at, Nat.zero_add, Holds.cellAny H'.get]
          rw [← htk] at hj
          simpa using (take_get hj).1
        have hr := run_append_grow (P := P) w t ty e i z ht hi hz ⟨g, 0, none⟩ n cap xs hxl holds a m c news hnl hcell (by omega) (by omega) (growslice_fits (by omega) hbytes)
        exact ⟨_, _, hr, grown cap (by omega)⟩

theorem wp_append_sl {o : Oper} {a : Act} {K : Act → World → Prop} {Q : Exit → Act → World → Prop} (s x : Operand) (t : TypeId)
    (ho : o.op = .call { callee := .builtin .append, args := #[s, x], argTypes := #[t, t] })
    (e : TypeId) (size bytes : Nat) (hE : ElemOf P t e size bytes) (v : Value) (n : Nat) (xs : List Value) (hs : a.eval s = v) (H : Holds en w (row v e size n xs :: R))
    (vx : Value) (m : Nat) (news : List Value) (hx : a.eval x = vx) (hr : Reads w vx size m news) (h1 : ∀ u ∈ news, u.oneCell' = true)
    (h63 : n + m ≤ maxLen) (hbytes : (n + m) * bytes ≤ 140737488355328)
    (h : ∀ v' w', Holds en w' (row v' e size (n + m) (xs ++ news) :: R) → K (a.put o.dst v') w') : o.wp P a w K Q := by
  obtain ⟨v', w', hr, h2⟩ := run_append_sl (P := P) t o.type e size bytes hE v n xs H vx m news hr h1 h63 hbytes
  unfold Oper.wp execOp
  simp only [ho, resolve, invoke, builtin, Sem.run_bind, Sem.run_pure, Result.andThen_ok, List.map_toArray, List.map_cons, List.map_nil, hs, hx, hr]
  exact h v' w' h2

theorem wpList_append_sl {ops : Array Oper} {rest : List Oper} {o : Oper} {a : Act} {Q : Exit → Act → World → Prop} (hgd : o.guard = none) (s x : Operand) (t : TypeId)
    (ho : o.op = .call { callee := .builtin .append, args := #[s, x], argTypes := #[t, t] })
    (e : TypeId) (size bytes : Nat) (hE : ElemOf P t e size bytes) (v : Value) (n : Nat) (xs : List Value) (hs : a.eval s = v) (H : Holds en w (row v e size n xs :: R))
    (vx : Value) (m : Nat) (news : List Value) (hx : a.eval x = vx) (hr : Reads w vx size m news) (h1 : ∀ u ∈ news, u.oneCell' = true)
    (h63 : n + m ≤ maxLen) (hbytes : (n + m) * bytes ≤ 140737488355328)
    (h : ∀ v' w', Holds en w' (row v' e size (n + m) (xs ++ news) :: R) → wpList P ops Q rest (a.put o.dst v') w') : wpList P ops Q (o :: rest) a w :=
  wpList_plain hgd fun _ hK => wp_append_sl s x t ho e size bytes hE v n xs hs H vx m news hx hr h1 h63 hbytes fun v' w' h2 => hK _ _ (h v' w' h2)

end

/-- append, as one step of a region that draws its order. -/
theorem step_append_sl {P : Program} {en : Env} {R : List HP} {ops : Array Oper} {o : Oper} {a : Act} {w : World} {K : Act → World → Prop} {Q : Exit → Act → World → Prop} {E : Prop} (hgd : o.guard = none) (s x : Operand) (t : TypeId)
    (ho : o.op = .call { callee := .builtin .append, args := #[s, x], argTypes := #[t, t] })
    (e : TypeId) (size bytes : Nat) (hE : ElemOf P t e size bytes) (v : Value) (n : Nat) (xs : List Value) (hs : a.eval s = v)
    (vx : Value) (m : Nat) (news : List Value) (hx : a.eval x = vx) (h1 : ∀ u ∈ news, u.oneCell' = true)
    (h63 : n + m ≤ maxLen) (hbytes : (n + m) * bytes ≤ 140737488355328) (H : Holds en w (row v e size n xs :: R)) (hr : Reads w vx size m news)
    (h : ∀ v' w', Holds en w' (row v' e size (n + m) (xs ++ news) :: R) → K (a.put o.dst v') w') : if Region.wanted o (yielded ops a.tmps) = true then Oper.wp P o a w K Q else E := by
  have hw : Region.wanted o (yielded ops a.tmps) = true := by simp [Region.wanted, hgd]
  rw [if_pos hw]
  exact wp_append_sl s x t ho e size bytes hE v n xs hs H vx m news hx hr h1 h63 hbytes h

def ints (xs : List Int) : List Value := xs.map (Value.int .i64)
@[simp] theorem ints_length (xs : List Int) : (ints xs).length = xs.length := by simp [ints]
theorem ints_get {xs : List Int} {i : Nat} {x : Int} (h : xs[i]? = some x) : (ints xs)[i]? = some (.int .i64 x) := by simp [ints, h]
theorem ints_one (xs : List Int) : ∀ u ∈ ints xs, u.oneCell' = true := by
  intro u hu; simp [ints] at hu; obtain ⟨x, _, rfl⟩ := hu; rfl
theorem ints_append (xs ys : List Int) : ints (xs ++ ys) = ints xs ++ ints ys := by simp [ints]

theorem elem_int : ElemOf Tryz.prog 24 3 1 8 := ElemOf.mk (z := .int .i64 0) (by kernel_rfl) (by kernel_rfl) rfl (by decide)

theorem reads_lit (w : World) (xs : List Int) (T : TypeId) (n : Nat) (hn : xs.length = n) : Reads (w.alloc (.cells (ints xs).toArray T)) (.slice (some ⟨w.heap.size, 0, none⟩) n n) 1 n (ints xs) := by
  refine ⟨by simp [hn], .inr ⟨_, _, rfl, Nat.le_refl _, fun j u hj => ?_⟩⟩
  rw [Addr.add_at, Nat.zero_add, World.cell?_alloc_new]
  simpa using hj

theorem reads_none (w : World) (size : Nat) : Reads w (.slice none 0 0) size 0 [] := ⟨by simp, .inl ⟨rfl, rfl⟩⟩

/-- The value is a slice of n elements, whatever its block. -/
def Value.isSlice (v : Value) (n : Nat) : Prop := ∃ a c, v = .slice a n c

theorem Reads.shape {w : World} {v : Value} {size n : Nat} {xs : List Value} (h : Reads w v size n xs) : ∃ a c, v = .slice a n c := by
  rcases h.2 with ⟨rfl, rfl⟩ | ⟨a, c, rfl, _⟩
  · exact ⟨_, _, rfl⟩
  · exact ⟨_, _, rfl⟩

theorem Reads.at {w : World} {a : Option Addr} {size n c : Nat} {xs : List Value} (h : Reads w (.slice a n c) size n xs) (hn : 0 < n * size) :
    ∃ b o, a = some ⟨b, o, none⟩ ∧ ∀ j u, xs[j]? = some u → w.cell? ⟨b, o + j, none⟩ = some u := by
  rcases h.2 with ⟨_, rfl⟩ | ⟨⟨b, o, s⟩, cap, hv, hc, hr⟩
  · omega
  · cases hv
    have h0 : 0 < xs.length := by rw [h.1]; exact hn
    have := hr 0 xs[0] (List.getElem?_eq_getElem h0)
    have hs : s = none := by
      unfold World.cell? at this
      split at this
      · cases s with
        | none => rfl
        | some x => simp [Addr.add] at this
      · cases this
    subst hs
    exact ⟨b, o, rfl, fun j u hj => by rw [← Addr.add_at]; exact hr j u hj⟩

/-- A slice argument of numbers, read in the base world. -/
theorem flat_at {W : World} {a : Option Addr} {size n c : Nat} {zs : List Int} (h : Reads W (.slice a n c) size n (ints zs)) (hl : zs.length = n * size) (k j : Nat) (hk : k < n) (hj : j < size) :
    ∃ b o, a = some ⟨b, o, none⟩ ∧ b < W.heap.size ∧ ∀ j, j < size → W.cell? ⟨b, o + (k * size + j), none⟩ = some (.int .i64 (zs.getD (k * size + j) 0)) := by
  have hlt : ∀ j, j < size → k * size + j < n * size := by
    intro j hj
    calc k * size + j < k * size + size := by omega
      _ = (k + 1) * size := by rw [Nat.succ_mul]
      _ ≤ n * size := Nat.mul_le_mul_right _ hk
  obtain ⟨b, o, rfl, hc⟩ := h.at (by have := hlt j hj; omega)
  have get : ∀ j, j < size → W.cell? ⟨b, o + (k * size + j), none⟩ = some (.int .i64 (zs.getD (k * size + j) 0)) := by
    intro j hj
    refine hc _ _ (ints_get ?_)
    have := hlt j hj
    simp [List.getD, List.getElem?_eq_getElem (show k * size + j < zs.length by omega)]
  exact ⟨b, o, rfl, World.block_lt_of_cell? _ _ (get j hj), get⟩

theorem getD_bd {zs : List Int} (h : ∀ z ∈ zs, -9223372036854775808 ≤ z ∧ z ≤ 9223372036854775807) (k : Nat) : -9223372036854775808 ≤ zs.getD k 0 ∧ zs.getD k 0 ≤ 9223372036854775807 := by
  by_cases hk : k < zs.length
  · refine h _ ?_
    simp [List.getD, List.getElem?_eq_getElem hk]
  · simp [List.getD, List.getElem?_eq_none (Nat.le_of_not_lt hk)]

end Go.Proofs.YtjbphdjheklhbaaGreat

/-
  What the arguments of a law are: a plain reading of flat values and slices, taken off the form's own reading. And the frame of a law's row.
-/
namespace Go.Proofs.YtjbphdjheklhbaaGreat
open Go.RowKit Go.ChangeShapes Go.WideShapes Go.ChangeAt

def Flat (P : Program) (W : World) : Nat → TypeId → List Value → Prop
  | 0, _, _ => True
  | d + 1, t, cs => match P.underlying t with
    | some (.int k) => ∃ n, cs = [.int k n] ∧ (Lit.int k n).wf = true
    | some .bool => ∃ b, cs = [.bool b]
    | some .string => ∃ s, cs = [.string s] ∧ s.size ≤ reachBytes
    | some (.struct fs) => cs.length = P.cellsOf t ∧ ∀ (i : Nat) (f : Field), fs[i]? = some f → Flat P W d f.type ((cs.drop f.offset).take (P.cellsOf f.type))
    | some (.array n e) => cs.length = P.cellsOf t ∧ ∀ i, i < n → Flat P W d e ((cs.drop (i * P.cellsOf e)).take (P.cellsOf e))
    | some (.slice e) => ∃ v n xs, cs = [v] ∧ Reads W v (P.cellsOf e) n xs ∧ n * P.bytesOf e ≤ reachBytes ∧ ∀ i, i < n → Flat P W d e ((xs.drop (i * P.cellsOf e)).take (P.cellsOf e))
    | _ => True

theorem weights_each {H : Type} {P : Program} : ∀ {ts : List TypeId} {ds : List (DataW H)} {j : Nat} {t : TypeId} {d : DataW H}, ts[j]? = some t → ds[j]? = some d → ∀ n ∈ d.weights P t, n ∈ DataW.weightsEach P ts ds :=
  fun ht hd n hn => DataW.weights_mem_each ht hd n hn

theorem weights_all {H : Type} {P : Program} {e : TypeId} : ∀ {ds : List (DataW H)} {d : DataW H}, d ∈ ds → ∀ n ∈ d.weights P e, n ∈ DataW.weightsAll P e ds
  | d' :: r, d, h, n, hn => by
    simp only [DataW.weightsAll, List.mem_append]
    rcases List.mem_cons.1 h with rfl | h
    · exact .inl hn
    · exact .inr (weights_all h n hn)

theorem cells?_list {w : World} {base : Nat} {a : Addr} {n : Nat} {cs : List Value} (h : w.cells? base a n = some cs) : cs.length = n ∧ ∀ j u, cs[j]? = some u → w.cell? (a.add j) = some u := by
  obtain ⟨_, hl, hc⟩ := World.cells?_some h
  refine ⟨hl, fun j u hj => ?_⟩
  have hlt : j < cs.length := (List.getElem?_eq_some_iff.1 hj).1
  rw [hc j (by omega), hj]

section
variable {H : Type} {enc : TypeId × Value → H} {P : Program} {W : World}

theorem add_add (a : Addr) (i j : Nat) (hs : a.spot = none) : (a.add i).add j = a.add (i + j) := by
  obtain ⟨b, o, s⟩ := a
  simp only at hs
  subst hs
  simp [Addr.add_at, Nat.add_assoc]

theorem mapM_opt {α β : Type} {f : α → Option β} : ∀ {l : List α} {xs : List β}, l.mapM f = some xs → xs.length = l.length ∧ ∀ (i : Nat) (a : α), l[i]? = some a → f a = xs[i]?
  | [], xs, h => by
    simp at h; subst h; simp
  | a :: l, xs, h => by
    simp only [List.mapM_cons, Option.bind_eq_bind, Option.bind_eq_some_iff, Option.pure_def, Option.some.injEq] at h
    obtain ⟨y, hy, ys, hys, rfl⟩ := h
    obtain ⟨h1, h2⟩ := mapM_opt hys
    refine ⟨by simp [h1], fun i b hb => ?_⟩
    cases i with
    | zero => simp at hb; subst hb; simpa using hy
    | succ i => simpa using h2 i b (by simpa using hb)

theorem trod_array {n : Nat} {e t : TypeId} {base fuel : Nat} {spare : Nat → Bool} {held : Bool} {cs : List Value} {x : DataW H × List MemPlace} (ht : P.underlying t = some (.array n e)) (h : DataW.trod enc P W base spare held fuel t cs = some x) :
    ∃ (xs : List (DataW H × List MemPlace)) (m : Nat), x = (.agg (xs.map (·.1)), xs.flatMap (·.2)) ∧ cs.length = P.cellsOf t ∧ xs.length = n ∧
      ∀ i, i < n → DataW.trod enc P W base spare held m e ((cs.drop (i * P.cellsOf e)).take (P.cellsOf e)) = xs[i]? := by
  cases fuel with
  | zero => simp [DataW.trod] at h
  | succ m =>
    unfold DataW.trod at h
    rw [ht] at h
    simp only at h
    split at h
    · rename_i hl
      cases hm : (List.range n).mapM (fun i => DataW.trod enc P W base spare held m e ((cs.drop (i * P.cellsOf e)).take (P.cellsOf e))) with
      | none => rw [hm] at h; cases h
      | some xs =>
        rw [hm] at h
        simp at h
        obtain ⟨h1, h2⟩ := mapM_opt hm
        refine ⟨xs, m, h.symm, hl, by simpa using h1, fun i hi => h2 i i (by simp [hi])⟩
    · cases h

theorem trod_flat : ∀ (d : Nat) (fuel : Nat) (t : TypeId) (cs : List Value) (x : DataW H × List MemPlace), DataW.trod enc P W 0 (fun _ => true) true fuel t cs = some x → (∀ n ∈ x.1.weights P t, n ≤ reachBytes) → Flat P W d t cs
  | 0, _, _, _, _, _, _ => trivial
  | d + 1, fuel, t, cs, x, h, hw => by
    unfold Flat
    split
    · rename_i k hk
      obtain ⟨n, h1, _, h2⟩ := DataW.trod_int hk h
      exact ⟨n, h1, h2⟩
    · rename_i hk
      obtain ⟨b, h1, _⟩ := DataW.trod_bool hk h
      exact ⟨b, h1⟩
    · rename_i hk
      obtain ⟨s, h1, h2, _⟩ := DataW.trod_string hk h
      refine ⟨s, h1, ?_⟩
      have := hw s.size (by rw [h2]; simp [DataW.weights])
      exact this
    · rename_i fs hk
      obtain ⟨xs, n, _, rfl, hl, hxl, hf⟩ := DataW.trod_struct hk h
      refine ⟨hl, fun i f hi => ?_⟩
      have hlt : i < fs.size := (Array.getElem?_eq_some_iff.1 hi).1
      have e := hf i f hi
      rw [List.getElem?_eq_getElem (by omega)] at e
      refine trod_flat d n _ _ _ e fun m hm => hw m ?_
      simp only [DataW.weights, hk]
      exact weights_each (j := i) (by simp [hi]) (by simp [List.getElem?_eq_getElem (show i < xs.length by omega)]) m hm
    · rename_i n e hk
      obtain ⟨xs, m, rfl, hl, hxl, hf⟩ := trod_array hk h
      refine ⟨hl, fun i hi => ?_⟩
      have e := hf i hi
      rw [List.getElem?_eq_getElem (by omega)] at e
      refine trod_flat d m _ _ _ e fun m hm => hw m ?_
      simp only [DataW.weights, hk]
      exact weights_all (List.mem_map.2 ⟨xs[i], List.getElem_mem _, rfl⟩) m hm
    · rename_i e hk
      rcases DataW.trod_slice hk h with ⟨rfl, rfl⟩ | ⟨a, len, cap, elems, rest, n, _, rfl, rfl, hb, hl, hm, hlen, hel, hsp, hns⟩
      · exact ⟨_, 0, [], rfl, ⟨by simp, .inl ⟨rfl, rfl⟩⟩, by simp, fun i hi => by omega⟩
      · obtain ⟨hrl, _⟩ := hsp rfl
        have hbytes : len * P.bytesOf e ≤ reachBytes := by
          have := hw ((elems.length + rest.length) * P.bytesOf e) (by simp [DataW.weights, hk])
          rw [hlen] at this
          exact Nat.le_trans (Nat.mul_le_mul_right _ (by omega)) this
        -- the cells of element i
        have each : ∀ i, i < len → ∃ ks y, W.cells? 0 (a.add (i * P.cellsOf e)) (P.cellsOf e) = some ks ∧ DataW.trod enc P W 0 (fun _ => true) true n e ks = some y ∧ elems[i]? = some y := by
          intro i hi
          have := hel i hi
          rw [List.getElem?_eq_getElem (by omega)] at this
          cases hc : W.cells? 0 (a.add (i * P.cellsOf e)) (P.cellsOf e) with
          | none => rw [hc] at this; cases this
          | some ks => rw [hc] at this; exact ⟨ks, _, rfl, this, List.getElem?_eq_getElem (by omega)⟩
        let xs : List Value := (List.range (len * P.cellsOf e)).map fun j => (W.cell? (a.add j)).getD undef
        have hspot : 0 < len * P.cellsOf e → a.spot = none := by
          intro h0
          have hl0 : 0 < len := Nat.pos_of_mul_pos_right h0
          have hc0 : 0 < P.cellsOf e := Nat.pos_of_mul_pos_left h0
          obtain ⟨ks, y, h1, _, _⟩ := each 0 hl0
          obtain ⟨hkl, hk⟩ := cells?_list h1
          have := hk 0 ks[0] (List.getElem?_eq_getElem (by omega))
          simpa [Addr.add] using World.cell?_spot this
        have hcell : ∀ i j, i < len → j < P.cellsOf e → ∃ u, W.cell? (a.add (i * P.cellsOf e + j)) = some u := by
          intro i j hi hj
          have hs := hspot (Nat.mul_pos (by omega) (by omega))
          obtain ⟨ks, y, h1, _, _⟩ := each i hi
          obtain ⟨hkl, hk⟩ := cells?_list h1
          have := hk j ks[j] (List.getElem?_eq_getElem (by omega))
          rw [add_add _ _ _ hs] at this
          exact ⟨_, this⟩
        refine ⟨_, len, xs, rfl, ⟨by simp [xs], .inr ⟨a, cap, rfl, hl, fun j u hj => ?_⟩⟩, hbytes, fun i hi => ?_⟩
        · have hlt : j < len * P.cellsOf e := by simpa [xs] using (List.getElem?_eq_some_iff.1 hj).1
          have hc0 : 0 < P.cellsOf e := Nat.pos_of_ne_zero (by rintro h; rw [h] at hlt; omega)
          obtain ⟨u', hu'⟩ := hcell (j / P.cellsOf e) (j % P.cellsOf e) (Nat.div_lt_of_lt_mul (by rw [Nat.mul_comm]; exact hlt)) (Nat.mod_lt _ hc0)
          rw [Nat.div_add_mod' j (P.cellsOf e)] at hu'
          simp only [xs, List.getElem?_map, List.getElem?_range hlt, Option.map_some, Option.some.injEq] at hj
          rw [hu'] at hj ⊢
          simpa using hj
        · obtain ⟨ks, y, h1, h2, h3⟩ := each i hi
          obtain ⟨hkl, hk'⟩ := cells?_list h1
          have hks : (xs.drop (i * P.cellsOf e)).take (P.cellsOf e) = ks := by
            apply List.ext_getElem?
            intro j
            by_cases hj : j < P.cellsOf e
            · have hs := hspot (Nat.mul_pos (by omega) (by omega))
              have hlt : i * P.cellsOf e + j < len * P.cellsOf e := by
                calc i * P.cellsOf e + j < i * P.cellsOf e + P.cellsOf e := by omega
                  _ = (i + 1) * P.cellsOf e := by rw [Nat.succ_mul]
                  _ ≤ len * P.cellsOf e := Nat.mul_le_mul_right _ hi
              have := hk' j ks[j] (List.getElem?_eq_getElem (by omega))
              rw [add_add _ _ _ hs] at this
              rw [List.getElem?_take, if_pos hj, List.getElem?_drop]
              simp only [xs, List.getElem?_map, List.getElem?_range hlt, Option.map_some]
              rw [this, List.getElem?_eq_getElem (by omega)]
              rfl
            · rw [List.getElem?_take, if_neg hj, List.getElem?_eq_none (by omega)]
          rw [hks]
          refine trod_flat d n _ _ _ h2 fun m hm => hw m ?_
          simp only [DataW.weights, hk, List.mem_cons, List.mem_append]
          exact .inr (.inl (weights_all (List.mem_map.2 ⟨y, List.mem_of_getElem? h3, rfl⟩) m hm))
    · trivial

end

/-- What a law is told of an argument. -/
def Arg (P : Program) (W : World) (t : TypeId) (v : Value) : Prop :=
  Flat P W 6 t v.cells.toList ∧ ∃ (r : Reach) (base : Nat), Value.okWide P W r base t v

theorem Arg.of {H : Type} {enc : TypeId × Value → H} {P : Program} {W : World} {r : Reach} {base : Nat} {t : TypeId} {v : Value} {d : DataW H} {ps : List MemPlace} (hval : Value.okWide P W r base t v)
    (h : DataW.Trod enc P W 0 (fun _ => true) true t v d ps) {ts : List TypeId} {ds : List (DataW H)} (hw : (DataW.weightsEach P ts ds).all (· ≤ reachBytes) = true) {j : Nat} (ht : ts[j]? = some t) (hd : ds[j]? = some d) : Arg P W t v := by
  obtain ⟨fuel, hf⟩ := h
  refine ⟨trod_flat 6 fuel t _ _ hf fun n hn => ?_, _, _, hval⟩
  have := List.all_eq_true.1 hw n (DataW.weights_mem_each ht hd n hn)
  simpa using this

section
variable {P : Program} {W : World} {t : TypeId} {v : Value}
theorem Arg.int {k : IntKind} (h : Arg P W t v) (ht : P.underlying t = some (.int k)) : ∃ n, v = .int k n ∧ (Lit.int k n).wf = true := by
  obtain ⟨h, r, base, hv⟩ := h
  obtain ⟨n, rfl⟩ := okWide_int ht hv
  unfold Flat at h
  rw [ht] at h
  obtain ⟨n', hn, hw⟩ := h
  simp [Value.cells] at hn
  subst hn
  exact ⟨n, rfl, hw⟩
theorem Arg.bool (h : Arg P W t v) (ht : P.underlying t = some .bool) : ∃ b, v = .bool b := by
  obtain ⟨_, r, base, hv⟩ := h
  exact okWide_bool ht hv
theorem Arg.string (h : Arg P W t v) (ht : P.underlying t = some .string) : ∃ s, v = .string s ∧ s.size ≤ reachBytes := by
  obtain ⟨h, r, base, hv⟩ := h
  obtain ⟨s, rfl⟩ := okWide_string ht hv
  unfold Flat at h
  rw [ht] at h
  obtain ⟨s', hn, hw⟩ := h
  simp [Value.cells] at hn
  subst hn
  exact ⟨s, rfl, hw⟩
theorem Arg.struct {fs : Array Field} (h : Arg P W t v) (ht : P.underlying t = some (.struct fs)) : ∃ cs, v = .agg cs ∧ cs.size = P.cellsOf t ∧ ∀ (i : Nat) (f : Field), fs[i]? = some f → Flat P W 5 f.type ((cs.toList.drop f.offset).take (P.cellsOf f.type)) := by
  obtain ⟨h, r, base, hv⟩ := h
  obtain ⟨cs, rfl, hs⟩ := okWide_struct ht hv
  unfold Flat at h
  rw [ht] at h
  exact ⟨cs, rfl, hs, h.2⟩
theorem Arg.slice {e : TypeId} (h : Arg P W t v) (ht : P.underlying t = some (.slice e)) : ∃ n xs, Reads W v (P.cellsOf e) n xs ∧ n * P.bytesOf e ≤ reachBytes ∧ ∀ i, i < n → Flat P W 5 e ((xs.drop (i * P.cellsOf e)).take (P.cellsOf e)) := by
  obtain ⟨h, r, base, hv⟩ := h
  obtain ⟨a, l, c, rfl⟩ := okWide_slice ht hv
  unfold Flat at h
  rw [ht] at h
  obtain ⟨v', n, xs, hv', h⟩ := h
  simp [Value.cells] at hv'
  subst hv'
  exact ⟨n, xs, h⟩

theorem Flat.int {d : Nat} {cs : List Value} {k : IntKind} (h : Flat P W (d + 1) t cs) (ht : P.underlying t = some (.int k)) : ∃ n, cs = [.int k n] ∧ (Lit.int k n).wf = true := by
  unfold Flat at h; rw [ht] at h; exact h
theorem Flat.bool {d : Nat} {cs : List Value} (h : Flat P W (d + 1) t cs) (ht : P.underlying t = some .bool) : ∃ b, cs = [.bool b] := by
  unfold Flat at h; rw [ht] at h; exact h
theorem Flat.string {d : Nat} {cs : List Value} (h : Flat P W (d + 1) t cs) (ht : P.underlying t = some .string) : ∃ s, cs = [.string s] ∧ s.size ≤ reachBytes := by
  unfold Flat at h; rw [ht] at h; exact h
theorem Flat.struct {d : Nat} {cs : List Value} {fs : Array Field} (h : Flat P W (d + 1) t cs) (ht : P.underlying t = some (.struct fs)) : cs.length = P.cellsOf t ∧ ∀ (i : Nat) (f : Field), fs[i]? = some f → Flat P W d f.type ((cs.drop f.offset).take (P.cellsOf f.type)) := by
  unfold Flat at h; rw [ht] at h; exact h
theorem Flat.array {d n : Nat} {e : TypeId} {cs : List Value} (h : Flat P W (d + 1) t cs) (ht : P.underlying t = some (.array n e)) : cs.length = P.cellsOf t ∧ ∀ i, i < n → Flat P W d e ((cs.drop (i * P.cellsOf e)).take (P.cellsOf e)) := by
  unfold Flat at h; rw [ht] at h; exact h
theorem Flat.slice {d : Nat} {e : TypeId} {cs : List Value} (h : Flat P W (d + 1) t cs) (ht : P.underlying t = some (.slice e)) : ∃ v n xs, cs = [v] ∧ Reads W v (P.cellsOf e) n xs ∧ n * P.bytesOf e ≤ reachBytes ∧ ∀ i, i < n → Flat P W d e ((xs.drop (i * P.cellsOf e)).take (P.cellsOf e)) := by
  unfold Flat at h; rw [ht] at h; exact h

/-- A slice of numbers of one kind. -/
theorem Arg.ints {e : TypeId} {k : IntKind} (h : Arg P W t v) (ht : P.underlying t = some (.slice e)) (he : P.underlying e = some (.int k)) (hc : P.cellsOf e = 1) :
    ∃ zs : List Int, Reads W v 1 zs.length (zs.map (Value.int k)) ∧ zs.length * P.bytesOf e ≤ reachBytes ∧ ∀ z ∈ zs, (Lit.int k z).wf = true := by
  obtain ⟨n, xs, hr, hb, hf⟩ := h.slice ht
  rw [hc] at hr
  have hl : xs.length = n := by have := hr.len; omega
  have each : ∀ i, i < n → ∃ z, xs[i]? = some (.int k z) ∧ (Lit.int k z).wf = true := by
    intro i hi
    obtain ⟨z, h1, h2⟩ := (hf i hi).int he
    refine ⟨z, ?_, h2⟩
    rw [hc, Nat.mul_one] at h1
    have := congrArg (·[0]?) h1
    simpa [List.getElem?_take, List.getElem?_drop] using this
  have : ∃ zs : List Int, zs.map (Value.int k) = xs ∧ ∀ z ∈ zs, (Lit.int k z).wf = true := by
    clear hr hf hb
    induction xs generalizing n with
    | nil => exact ⟨[], rfl, by simp⟩
    | cons x xs ih =>
      obtain ⟨z, h1, h2⟩ := each 0 (by simp at hl; omega)
      obtain ⟨zs, h3, h4⟩ := ih (n - 1) (by simp at hl; omega) (fun i hi => by simpa using each (i + 1) (by omega))
      simp at h1
      subst h1
      refine ⟨z :: zs, by simp [h3], ?_⟩
      intro z' hz'
      rcases List.mem_cons.1 hz' with rfl | hz'
      · exact h2
      · exact h4 _ hz'
  obtain ⟨zs, rfl, hz⟩ := this
  have hn : n = zs.length := by simpa using hl.symm
  subst hn
  exact ⟨zs, hr, hb, hz⟩
end

/-- The type of cell j of a value of type t. -/
def cellType (P : Program) : Nat → TypeId → Nat → Option TypeId
  | 0, _, _ => none
  | d + 1, t, j => match P.underlying t with
    | some (.struct fs) => (fs.toList.find? fun f => f.offset ≤ j && j < f.offset + P.cellsOf f.type).bind fun f => cellType P d f.type (j - f.offset)
    | some (.array n e) => if 0 < P.cellsOf e ∧ j / P.cellsOf e < n then cellType P d e (j % P.cellsOf e) else none
    | some (.int _) => if j = 0 then some t else none
    | some .bool => if j = 0 then some t else none
    | some .string => if j = 0 then some t else none
    | some (.slice _) => if j = 0 then some t else none
    | _ => none

theorem flat_cell {P : Program} {W : World} : ∀ (d k : Nat) {t : TypeId} {cs : List Value} {j : Nat} {u : TypeId}, Flat P W (d + k) t cs → cellType P d t j = some u → ∃ v k', cs[j]? = some v ∧ k ≤ k' ∧ Flat P W (k' + 1) u [v]
  | 0, _, _, _, _, _, _, h => by cases h
  | d + 1, k, t, cs, j, u, h, hc => by
    have hd : d + 1 + k = (d + k) + 1 := by omega
    rw [hd] at h
    unfold cellType at hc
    have leaf : ∀ v : Value, cs = [v] → (if j = 0 then some t else none) = some u → ∃ v k', cs[j]? = some v ∧ k ≤ k' ∧ Flat P W (k' + 1) u [v] := by
      intro v hv hj
      split at hj
      · rename_i h0
        cases hj
        subst hv h0
        exact ⟨v, d + k, rfl, by omega, h⟩
      · cases hj
    split at hc
    · rename_i fs hk
      obtain ⟨hl, hf⟩ := h.struct hk
      cases hfi : fs.toList.find? (fun f => decide (f.offset ≤ j) && decide (j < f.offset + P.cellsOf f.type)) with
      | none => rw [hfi] at hc; cases hc
      | some f =>
        rw [hfi] at hc
        simp only [Option.bind_some] at hc
        have hp := List.find?_some hfi
        simp only [Bool.and_eq_true, decide_eq_true_eq] at hp
        obtain ⟨i, hi, hif⟩ := List.getElem_of_mem (List.mem_of_find?_eq_some hfi)
        have := hf i f (by rw [← hif, ← Array.getElem?_toList, List.getElem?_eq_getElem hi])
        obtain ⟨v, k', hv, hk', hF⟩ := flat_cell d k this hc
        refine ⟨v, k', ?_, hk', hF⟩
        have := (take_get hv).1
        rw [List.getElem?_drop] at this
        rwa [show f.offset + (j - f.offset) = j by omega] at this
    · rename_i n e hk
      obtain ⟨hl, hf⟩ := h.array hk
      split at hc
      · rename_i hj
        obtain ⟨v, k', hv, hk', hF⟩ := flat_cell d k (hf _ hj.2) hc
        refine ⟨v, k', ?_, hk', hF⟩
        have := (take_get hv).1
        rw [List.getElem?_drop, Nat.div_add_mod'] at this
        exact this
      · cases hc
    · rename_i kk hk
      obtain ⟨n, hn, _⟩ := h.int hk
      exact leaf _ hn hc
    · rename_i hk
      obtain ⟨n, hn⟩ := h.bool hk
      exact leaf _ hn hc
    · rename_i hk
      obtain ⟨n, hn, _⟩ := h.string hk
      exact leaf _ hn hc
    · rename_i e hk
      obtain ⟨v, _, _, hn, _⟩ := h.slice hk
      exact leaf _ hn hc
    · cases hc

/-- A slice argument, cell by cell. -/
theorem arg_cell {P : Program} {W : World} {e : TypeId} {size n i j : Nat} {u : TypeId} {xs : List Value} (hf : ∀ i, i < n → Flat P W 5 e ((xs.drop (i * size)).take size)) (hi : i < n) (hc : cellType P 3 e j = some u) :
    ∃ v k', xs[i * size + j]? = some v ∧ 2 ≤ k' ∧ Flat P W (k' + 1) u [v] := by
  obtain ⟨v, k', hv, h⟩ := flat_cell 3 2 (hf i hi) hc
  have := (take_get hv).1
  rw [List.getElem?_drop] at this
  exact ⟨v, k', this, h⟩

/-- A slice argument all of whose cells are numbers of kind int. -/
theorem arg_flatInts {P : Program} {W : World} {e : TypeId} {size n : Nat} {v : Value} {xs : List Value} (hr : Reads W v size n xs) (hf : ∀ i, i < n → Flat P W 5 e ((xs.drop (i * size)).take size))
    (hs : ∀ j, j < size → ∃ u, cellType P 3 e j = some u ∧ P.underlying u = some (.int .i64)) :
    ∃ zs : List Int, xs = ints zs ∧ zs.length = n * size ∧ ∀ z ∈ zs, (Lit.int .i64 z).wf = true := by
  have each : ∀ k, k < xs.length → ∃ z, xs[k]? = some (.int .i64 z) ∧ (Lit.int .i64 z).wf = true := by
    intro k hk
    rw [hr.len] at hk
    have h0 : 0 < size := Nat.pos_of_ne_zero (by rintro rfl; omega)
    obtain ⟨u, hu, hi⟩ := hs (k % size) (Nat.mod_lt _ h0)
    obtain ⟨v, k', h1, _, h2⟩ := arg_cell hf (i := k / size) (Nat.div_lt_of_lt_mul (by rw [Nat.mul_comm]; exact hk)) hu
    rw [Nat.div_add_mod'] at h1
    obtain ⟨z, h3, h4⟩ := h2.int hi
    simp at h3
    subst h3
    exact ⟨z, h1, h4⟩
  have key : ∀ (l : List Value), (∀ k, k < l.length → ∃ z, l[k]? = some (.int .i64 z) ∧ (Lit.int .i64 z).wf = true) → ∃ zs : List Int, l = ints zs ∧ ∀ z ∈ zs, (Lit.int .i64 z).wf = true := by
    intro l
    induction l with
    | nil => intro _; exact ⟨[], rfl, by simp⟩
    | cons x l ih =>
      intro h
      obtain ⟨z, h1, h2⟩ := h 0 (by simp)
      obtain ⟨zs, h3, h4⟩ := ih (fun k hk => by simpa using h (k + 1) (by simpa using hk))
      simp at h1
      subst h1 h3
      refine ⟨z :: zs, rfl, ?_⟩
      intro z' hz'
      rcases List.mem_cons.1 hz' with rfl | hz'
      · exact h2
      · exact h4 _ hz'
  obtain ⟨zs, rfl, hz⟩ := key xs each
  exact ⟨zs, rfl, by have := hr.len; simpa using this, hz⟩

theorem cells_ints : ∀ (l : List Value), (∀ k, k < l.length → ∃ z, l[k]? = some (.int .i64 z) ∧ (Lit.int .i64 z).wf = true) → ∃ zs : List Int, l = ints zs ∧ ∀ z ∈ zs, (Lit.int .i64 z).wf = true := by
  intro l
  induction l with
  | nil => intro _; exact ⟨[], rfl, by simp⟩
  | cons x l ih =>
    intro h
    obtain ⟨z, h1, h2⟩ := h 0 (by simp)
    obtain ⟨zs, h3, h4⟩ := ih (fun k hk => by simpa using h (k + 1) (by simpa using hk))
    simp at h1
    subst h1 h3
    refine ⟨z :: zs, rfl, ?_⟩
    intro z' hz'
    rcases List.mem_cons.1 hz' with rfl | hz'
    · exact h2
    · exact h4 _ hz'

/-- A struct argument all of whose cells are numbers of kind int. -/
theorem struct_ints {P : Program} {W : World} {t : TypeId} {v : Value} {fs : Array Field} {n : Nat} (h : Arg P W t v) (ht : P.underlying t = some (.struct fs)) (hn : P.cellsOf t = n)
    (hs : ∀ j, j < n → ∃ u, cellType P 3 t j = some u ∧ P.underlying u = some (.int .i64)) :
    ∃ zs : List Int, v = .agg (ints zs).toArray ∧ zs.length = n ∧ ∀ z ∈ zs, (Lit.int .i64 z).wf = true := by
  obtain ⟨hf, r, base, hv⟩ := h
  obtain ⟨cs, rfl, hsz⟩ := okWide_struct ht hv
  have hfl : Flat P W (3 + 3) t cs.toList := hf
  obtain ⟨zs, hz, hw⟩ := cells_ints cs.toList (fun k hk => by
    obtain ⟨u, hu, hi⟩ := hs k (by rw [← hn, ← hsz]; simpa using hk)
    obtain ⟨v, k', h1, _, h2⟩ := flat_cell 3 3 hfl hu
    obtain ⟨z, h3, h4⟩ := h2.int hi
    simp at h3
    subst h3
    exact ⟨z, h1, h4⟩)
  refine ⟨zs, ?_, ?_, hw⟩
  · rw [← hz]
  · have := congrArg List.length hz
    simp at this
    omega

theorem wf_i64 {z : Int} (h : (Lit.int .i64 z).wf = true) : -9223372036854775808 ≤ z ∧ z ≤ 9223372036854775807 := by
  simp [Lit.wf, IntKind.min, IntKind.max, IntKind.signed, IntKind.bits] at h; omega
theorem wf_u8 {z : Int} (h : (Lit.int .u8 z).wf = true) : 0 ≤ z ∧ z ≤ 255 := by
  simp [Lit.wf, IntKind.min, IntKind.max, IntKind.signed, IntKind.bits] at h; omega
theorem wf_u16 {z : Int} (h : (Lit.int .u16 z).wf = true) : 0 ≤ z ∧ z ≤ 65535 := by
  simp [Lit.wf, IntKind.min, IntKind.max, IntKind.signed, IntKind.bits] at h; omega

theorem law_own : ownKnob Tryz.prog.godebug = none := by kernel_rfl
theorem law_laidOut : laidOutB Tryz.prog = true := by kernel_rfl

theorem args_below {H : Type} {enc : TypeId × Value → H} {W W' : World} (hb : Below W.heap.size W W') :
    ∀ {ts : List TypeId} {vs : List Value} {ds : List (DataW H)} {ps : List MemPlace}, (∀ t ∈ ts, Tryz.prog.readableRec t = true ∧ t < Tryz.prog.types.size) → (∀ x ∈ ps, x.block < W.heap.size) →
      DataW.TrodAll enc Tryz.prog W 0 (fun _ => true) true ts vs ds ps → DataW.TrodAll enc Tryz.prog W' 0 (fun b => decide (b < W.heap.size)) true ts vs ds ps
  | [], [], [], _, _, _, h => h
  | [], [], _ :: _, _, _, _, h => h.elim
  | [], _ :: _, _, _, _, _, h => h.elim
  | _ :: _, [], _, _, _, _, h => h.elim
  | _ :: _, _ :: _, [], _, _, _, h => h.elim
  | t :: ts, v :: vs, d :: ds, ps, ht, hlt, h => by
    obtain ⟨p, q, h1, h2, rfl⟩ := h
    refine ⟨p, q, ?_, args_below hb (fun t ht' => ht t (List.mem_cons_of_mem _ ht')) (fun x hx => hlt x (List.mem_append.2 (.inr hx))) h2, rfl⟩
    obtain ⟨r1, r2⟩ := ht t (List.mem_cons_self ..)
    exact Below.trod law_laidOut r1 r2 h1 hb fun x hx => hlt x (List.mem_append.2 (.inl hx))

end Go.Proofs.YtjbphdjheklhbaaGreat

/-
  Parts of slices that are read.
-/
namespace Go.Proofs.YtjbphdjheklhbaaGreat
open Go.RowKit

theorem reads_take {w : World} {a : Addr} {size n c k : Nat} {xs : List Value} (h : Reads w (.slice (some a) n c) size n xs) (hk : k ≤ n) : Reads w (.slice (some a) k c) size k (xs.take (k * size)) := by
  obtain ⟨h1, h2⟩ := h
  refine ⟨by rw [List.length_take, h1]; exact Nat.min_eq_left (Nat.mul_le_mul_right _ hk), .inr ⟨a, c, rfl, ?_, fun j u hj => ?_⟩⟩
  · rcases h2 with ⟨h, rfl⟩ | ⟨a', c', h, h', _⟩
    · cases h
    · cases h; omega
  · rcases h2 with ⟨h, rfl⟩ | ⟨a', c', h, h', hr⟩
    · cases h
    · cases h; exact hr j u (take_get hj).1
theorem reads_drop {w : World} {g o size n c k : Nat} {xs : List Value} (h : Reads w (.slice (some ⟨g, o, none⟩) n c) size n xs) (hk : k ≤ n) : Reads w (.slice (some ⟨g, o + k * size, none⟩) (n - k) (c - k)) size (n - k) (xs.drop (k * size)) := by
  obtain ⟨h1, h2⟩ := h
  refine ⟨by rw [List.length_drop, h1, Nat.sub_mul], .inr ⟨⟨g, o + k * size, none⟩, c - k, rfl, ?_, fun j u hj => ?_⟩⟩
  · rcases h2 with ⟨h, rfl⟩ | ⟨a', c', h, h', _⟩
    · cases h
    · cases h; omega
  · rcases h2 with ⟨h, rfl⟩ | ⟨a', c', h, h', hr⟩
    · cases h
    · cases h
      rw [List.getElem?_drop] at hj
      have := hr _ u hj
      rw [Addr.add_at] at this ⊢
      rw [← this]
      congr 2
      omega
theorem reads_none' (w : World) (a : Addr) (size c : Nat) : Reads w (.slice (some a) 0 c) size 0 [] := ⟨by simp, .inr ⟨a, c, rfl, Nat.zero_le _, fun j u hj => by cases hj⟩⟩

theorem row_shape {v : Value} {T : TypeId} {size k : Nat} {us : List Value} {e : Env} {w : World} {R : List HP} (H : Holds e w (row v T size k us :: R)) : ∃ a c, v = .slice a k c := (row.reads H).shape
theorem row_len {e : Env} {w : World} {R : List HP} {v : Value} {T : TypeId} {size n m : Nat} {us : List Value} (H : Holds e w (row v T size n us :: R)) (h : n = m) : Holds e w (row v T size m us :: R) := h ▸ H

end Go.Proofs.YtjbphdjheklhbaaGreat

/-
  More of the separation logic: turning of assertions, families of assertions, bytes. No program in sight but the type of bytes.
-/
namespace Go.Proofs.YtjbphdjheklhbaaGreat
open Go.RowKit

section
variable {e : Env} {w : World} {A R : List HP} {X Y X0 X1 X2 X3 X4 X5 X6 X7 : HP}

/-- Bring the assertion at place k to the front. -/
theorem Holds.p2 (h : Holds e w (X0 :: X1 :: X :: R)) : Holds e w (X :: X0 :: X1 :: R) := h.take (Take.there _ (Take.there _ (Take.here _ _)))
theorem Holds.p3 (h : Holds e w (X0 :: X1 :: X2 :: X :: R)) : Holds e w (X :: X0 :: X1 :: X2 :: R) := h.take (Take.there _ (Take.there _ (Take.there _ (Take.here _ _))))
theorem Holds.p4 (h : Holds e w (X0 :: X1 :: X2 :: X3 :: X :: R)) : Holds e w (X :: X0 :: X1 :: X2 :: X3 :: R) := h.take (Take.there _ (Take.there _ (Take.there _ (Take.there _ (Take.here _ _)))))
theorem Holds.p5 (h : Holds e w (X0 :: X1 :: X2 :: X3 :: X4 :: X :: R)) : Holds e w (X :: X0 :: X1 :: X2 :: X3 :: X4 :: R) := h.take (Take.there _ (Take.there _ (Take.there _ (Take.there _ (Take.there _ (Take.here _ _))))))
theorem Holds.p6 (h : Holds e w (X0 :: X1 :: X2 :: X3 :: X4 :: X5 :: X :: R)) : Holds e w (X :: X0 :: X1 :: X2 :: X3 :: X4 :: X5 :: R) := h.take (Take.there _ (Take.there _ (Take.there _ (Take.there _ (Take.there _ (Take.there _ (Take.here _ _)))))))
theorem Holds.p7 (h : Holds e w (X0 :: X1 :: X2 :: X3 :: X4 :: X5 :: X6 :: X :: R)) : Holds e w (X :: X0 :: X1 :: X2 :: X3 :: X4 :: X5 :: X6 :: R) := h.take (Take.there _ (Take.there _ (Take.there _ (Take.there _ (Take.there _ (Take.there _ (Take.there _ (Take.here _ _))))))))
theorem Sat.q1 {h : PH} (s : Sat (X :: X0 :: R) h) : Sat (X0 :: X :: R) h := Take.there _ (Take.here _ _) h s
theorem Sat.q2 {h : PH} (s : Sat (X :: X0 :: X1 :: R) h) : Sat (X0 :: X1 :: X :: R) h := Sat.cons (fun _ => Sat.q1) (Sat.q1 s)
theorem Sat.q3 {h : PH} (s : Sat (X :: X0 :: X1 :: X2 :: R) h) : Sat (X0 :: X1 :: X2 :: X :: R) h := Sat.cons (fun _ => Sat.q2) (Sat.q1 s)
theorem Sat.q4 {h : PH} (s : Sat (X :: X0 :: X1 :: X2 :: X3 :: R) h) : Sat (X0 :: X1 :: X2 :: X3 :: X :: R) h := Sat.cons (fun _ => Sat.q3) (Sat.q1 s)
theorem Sat.q5 {h : PH} (s : Sat (X :: X0 :: X1 :: X2 :: X3 :: X4 :: R) h) : Sat (X0 :: X1 :: X2 :: X3 :: X4 :: X :: R) h := Sat.cons (fun _ => Sat.q4) (Sat.q1 s)
theorem Sat.q6 {h : PH} (s : Sat (X :: X0 :: X1 :: X2 :: X3 :: X4 :: X5 :: R) h) : Sat (X0 :: X1 :: X2 :: X3 :: X4 :: X5 :: X :: R) h := Sat.cons (fun _ => Sat.q5) (Sat.q1 s)
theorem Sat.q7 {h : PH} (s : Sat (X :: X0 :: X1 :: X2 :: X3 :: X4 :: X5 :: X6 :: R) h) : Sat (X0 :: X1 :: X2 :: X3 :: X4 :: X5 :: X6 :: X :: R) h := Sat.cons (fun _ => Sat.q6) (Sat.q1 s)
/-- Put the front assertion to place k. -/
theorem Holds.q6 (h : Holds e w (X :: X0 :: X1 :: X2 :: X3 :: X4 :: X5 :: R)) : Holds e w (X0 :: X1 :: X2 :: X3 :: X4 :: X5 :: X :: R) := h.imp fun _ => Sat.q6
theorem Holds.q7 (h : Holds e w (X :: X0 :: X1 :: X2 :: X3 :: X4 :: X5 :: X6 :: R)) : Holds e w (X0 :: X1 :: X2 :: X3 :: X4 :: X5 :: X6 :: X :: R) := h.imp fun _ => Sat.q7
theorem Holds.q2 (h : Holds e w (X :: X0 :: X1 :: R)) : Holds e w (X0 :: X1 :: X :: R) := h.imp fun _ => Sat.q2
theorem Holds.q3 (h : Holds e w (X :: X0 :: X1 :: X2 :: R)) : Holds e w (X0 :: X1 :: X2 :: X :: R) := h.imp fun _ => Sat.q3
theorem Holds.q4 (h : Holds e w (X :: X0 :: X1 :: X2 :: X3 :: R)) : Holds e w (X0 :: X1 :: X2 :: X3 :: X :: R) := h.imp fun _ => Sat.q4
theorem Holds.q5 (h : Holds e w (X :: X0 :: X1 :: X2 :: X3 :: X4 :: R)) : Holds e w (X0 :: X1 :: X2 :: X3 :: X4 :: X :: R) := h.imp fun _ => Sat.q5
theorem Sat.d1 {h : PH} (s : Sat (X0 :: X :: R) h) : Sat (X0 :: R) h := Sat.cons (fun _ => Sat.drop) s
theorem Sat.d2 {h : PH} (s : Sat (X0 :: X1 :: X :: R) h) : Sat (X0 :: X1 :: R) h := Sat.cons (fun _ => Sat.d1) s
theorem Sat.d3 {h : PH} (s : Sat (X0 :: X1 :: X2 :: X :: R) h) : Sat (X0 :: X1 :: X2 :: R) h := Sat.cons (fun _ => Sat.d2) s
theorem Sat.d4 {h : PH} (s : Sat (X0 :: X1 :: X2 :: X3 :: X :: R) h) : Sat (X0 :: X1 :: X2 :: X3 :: R) h := Sat.cons (fun _ => Sat.d3) s
theorem Sat.d5 {h : PH} (s : Sat (X0 :: X1 :: X2 :: X3 :: X4 :: X :: R) h) : Sat (X0 :: X1 :: X2 :: X3 :: X4 :: R) h := Sat.cons (fun _ => Sat.d4) s
theorem Sat.d6 {h : PH} (s : Sat (X0 :: X1 :: X2 :: X3 :: X4 :: X5 :: X :: R) h) : Sat (X0 :: X1 :: X2 :: X3 :: X4 :: X5 :: R) h := Sat.cons (fun _ => Sat.d5) s
theorem Sat.d7 {h : PH} (s : Sat (X0 :: X1 :: X2 :: X3 :: X4 :: X5 :: X6 :: X :: R) h) : Sat (X0 :: X1 :: X2 :: X3 :: X4 :: X5 :: X6 :: R) h := Sat.cons (fun _ => Sat.d6) s
theorem Sat.d8 {h : PH} (s : Sat (X0 :: X1 :: X2 :: X3 :: X4 :: X5 :: X6 :: X7 :: X :: R) h) : Sat (X0 :: X1 :: X2 :: X3 :: X4 :: X5 :: X6 :: X7 :: R) h := Sat.cons (fun _ => Sat.d7) s
/-- Drop the assertion at place k. -/
theorem Holds.d1 (h : Holds e w (X0 :: X :: R)) : Holds e w (X0 :: R) := h.imp fun _ => Sat.d1
theorem Holds.d2 (h : Holds e w (X0 :: X1 :: X :: R)) : Holds e w (X0 :: X1 :: R) := h.imp fun _ => Sat.d2
theorem Holds.d3 (h : Holds e w (X0 :: X1 :: X2 :: X :: R)) : Holds e w (X0 :: X1 :: X2 :: R) := h.imp fun _ => Sat.d3
theorem Holds.d4 (h : Holds e w (X0 :: X1 :: X2 :: X3 :: X :: R)) : Holds e w (X0 :: X1 :: X2 :: X3 :: R) := h.imp fun _ => Sat.d4
theorem Holds.d5 (h : Holds e w (X0 :: X1 :: X2 :: X3 :: X4 :: X :: R)) : Holds e w (X0 :: X1 :: X2 :: X3 :: X4 :: R) := h.imp fun _ => Sat.d5
theorem Holds.d6 (h : Holds e w (X0 :: X1 :: X2 :: X3 :: X4 :: X5 :: X :: R)) : Holds e w (X0 :: X1 :: X2 :: X3 :: X4 :: X5 :: R) := h.imp fun _ => Sat.d6
theorem Holds.d7 (h : Holds e w (X0 :: X1 :: X2 :: X3 :: X4 :: X5 :: X6 :: X :: R)) : Holds e w (X0 :: X1 :: X2 :: X3 :: X4 :: X5 :: X6 :: R) := h.imp fun _ => Sat.d7
theorem Holds.d8 (h : Holds e w (X0 :: X1 :: X2 :: X3 :: X4 :: X5 :: X6 :: X7 :: X :: R)) : Holds e w (X0 :: X1 :: X2 :: X3 :: X4 :: X5 :: X6 :: X7 :: R) := h.imp fun _ => Sat.d8
theorem Holds.cons (h : Holds e w (X :: A)) (f : ∀ h, Sat A h → Sat R h) : Holds e w (X :: R) := h.imp fun _ => Sat.cons f

theorem Take.mid (X : HP) (L2 : List HP) : ∀ L1 : List HP, Take (L1 ++ X :: L2) X (L1 ++ L2)
  | [] => Take.here _ _
  | Y :: L1 => Take.there Y (Take.mid X L2 L1)
theorem Sat.toMid (X : HP) (L2 : List HP) : ∀ (L1 : List HP) (h : PH), Sat (X :: (L1 ++ L2)) h → Sat (L1 ++ X :: L2) h
  | [], _, s => s
  | Y :: L1, _, s => Sat.cons (fun h' s' => Sat.toMid X L2 L1 h' s') (Sat.q1 (X0 := Y) (R := L1 ++ L2) s)

/-- A family: the assertions of all members. -/
def all {α : Type} (f : α → HP) (l : List α) : HP := grp (l.map f)
theorem split_at {α : Type} {l : List α} {i : Nat} {x : α} (h : l[i]? = some x) : l = l.take i ++ x :: l.drop (i + 1) ∧ l.eraseIdx i = l.take i ++ l.drop (i + 1) := by
  obtain ⟨hi, rfl⟩ := List.getElem?_eq_some_iff.1 h
  exact ⟨by rw [List.getElem_cons_drop hi, List.take_append_drop], by rw [List.eraseIdx_eq_take_drop_succ]⟩
theorem Holds.focus {α : Type} {f : α → HP} {l : List α} {i : Nat} {x : α} (hi : l[i]? = some x) (H : Holds e w (all f l :: A)) : Holds e w (f x :: all f (l.eraseIdx i) :: A) := by
  obtain ⟨h1, h2⟩ := split_at hi
  unfold all at *
  rw [h2]
  have H1 := H.ungrp
  generalize hL : l.take i = L1 at *
  generalize hR : l.drop (i + 1) = L2 at *
  rw [h1, List.map_append, List.map_cons, List.append_assoc, List.cons_append] at H1
  have H2 := H1.take (Take.mid (f x) (L2.map f ++ A) (L1.map f))
  rw [← List.append_assoc, ← List.map_append] at H2
  exact H2.imp fun _ => Sat.cons fun _ => Sat.append.1
theorem Holds.unfocus' {α : Type} {f : α → HP} {l : List α} {i : Nat} {x : α} (hi : l[i]? = some x) (H : Holds e w (f x :: all f (l.eraseIdx i) :: A)) : Holds e w (all f l :: A) := by
  obtain ⟨h1, h2⟩ := split_at hi
  unfold all at *
  rw [h2] at H
  have H1 := H.imp (R := f x :: ((l.take i ++ l.drop (i + 1)).map f ++ A)) fun _ => Sat.cons fun _ => Sat.append.2
  generalize hL : l.take i = L1 at *
  generalize hR : l.drop (i + 1) = L2 at *
  rw [List.map_append, List.append_assoc] at H1
  have H2 := H1.imp (Sat.toMid (f x) (L2.map f ++ A) (L1.map f))
  rw [← List.cons_append, ← List.append_assoc, ← List.map_cons, ← List.map_append, ← h1] at H2
  exact H2.mkGrp
theorem Holds.unfocus {α : Type} {f : α → HP} {l : List α} {i : Nat} {y : α} (hi : i < l.length) (H : Holds e w (f y :: all f (l.eraseIdx i) :: A)) : Holds e w (all f (l.set i y) :: A) := by
  refine Holds.unfocus' (i := i) (x := y) (by simp [hi]) ?_
  rw [List.eraseIdx_set_eq]
  exact H
theorem Holds.allNil {α : Type} {f : α → HP} (H : Holds e w A) : Holds e w (all f [] :: A) := Holds.mkGrp (L := []) H
theorem Holds.allCons {α : Type} {f : α → HP} {l : List α} {x : α} (H : Holds e w (f x :: all f l :: A)) : Holds e w (all f (x :: l) :: A) :=
  Holds.mkGrp (L := (x :: l).map f) (H.imp fun _ => Sat.cons fun _ => Sat.append.2)
theorem Holds.allSnoc {α : Type} {f : α → HP} {l : List α} {x : α} (H : Holds e w (f x :: all f l :: A)) : Holds e w (all f (l ++ [x]) :: A) := by
  refine Holds.unfocus' (i := l.length) (x := x) (by simp) ?_
  have : (l ++ [x]).eraseIdx l.length = l := by rw [List.eraseIdx_append_of_length_le (by omega)]; simp
  rw [this]
  exact H
theorem Holds.allEmp {α : Type} {f : α → HP} {l : List α} (H : Holds e w (all f l :: A)) : Holds e w A := H.drop

theorem row.take {v : Value} {T : TypeId} {size n m : Nat} {xs : List Value} (H : Holds e w (row v T size n xs :: A)) (hm : m ≤ n) (hn : 0 < n) :
    ∃ g c, v = .slice (some ⟨g, 0, none⟩) n c ∧ n ≤ c ∧ Holds e w (row (.slice (some ⟨g, 0, none⟩) m c) T size m (xs.take (m * size)) :: A) := by
  obtain ⟨hl, h⟩ := row.open H
  rcases h with ⟨_, rfl⟩ | ⟨g, cap, cur, rfl, h1, h2, h3, h4, h5⟩
  · omega
  · refine ⟨g, cap, rfl, h1, row.made h5 (by omega) h2 h3 ?_⟩
    rw [← h4, List.take_take]
    congr 1
    exact (Nat.min_eq_left (Nat.mul_le_mul_right _ hm)).symm
end

/-- Bytes in memory. -/
def u8v (l : List UInt8) : List Value := l.map (fun c => Value.int .u8 (c.toNat : Int))
@[simp] theorem u8v_length (l : List UInt8) : (u8v l).length = l.length := by simp [u8v]
theorem u8v_one (l : List UInt8) : ∀ u ∈ u8v l, u.oneCell' = true := by
  intro u hu; simp [u8v] at hu; obtain ⟨x, _, rfl⟩ := hu; rfl
theorem u8v_append (a b : List UInt8) : u8v (a ++ b) = u8v a ++ u8v b := by simp [u8v]
theorem u8v_take (l : List UInt8) (n : Nat) : (u8v l).take n = u8v (l.take n) := by simp [u8v, List.map_take]
theorem u8v_drop (l : List UInt8) (n : Nat) : (u8v l).drop n = u8v (l.drop n) := by simp [u8v, List.map_drop]
theorem u8v_get {l : List UInt8} {i : Nat} (h : i < l.length) : (u8v l)[i]? = some (.int .u8 ((l.getD i 0).toNat : Int)) := by
  simp [u8v, List.getD, List.getElem?_eq_getElem h]
theorem elem_u8 : ElemOf Tryz.prog 23 5 1 1 := ElemOf.mk (z := .int .u8 0) (by kernel_rfl) (by kernel_rfl) rfl (by decide)
/-- v is a slice that owns its bytes l. -/
def bts (v : Value) (l : List UInt8) : HP := row v 5 1 l.length (u8v l)
/-- Through v the bytes l are read. -/
def RdB (w : World) (v : Value) (l : List UInt8) : Prop := Reads w v 1 l.length (u8v l)
theorem bts.reads {e : Env} {w : World} {R : List HP} {v : Value} {l : List UInt8} (H : Holds e w (bts v l :: R)) : RdB w v l := row.reads H
theorem bts.nil {e : Env} {w : World} {R : List HP} (H : Holds e w R) : Holds e w (bts (.slice none 0 0) [] :: R) := row.nil _ 1 H
theorem RdB.shape {w : World} {v : Value} {l : List UInt8} (h : RdB w v l) : ∃ a c, v = .slice a l.length c := Reads.shape h

theorem getD_set {α : Type} {l : List α} {i j : Nat} {v d : α} (hi : i < l.length) : (l.set i v).getD j d = if j = i then v else l.getD j d := by
  by_cases h : j = i
  · subst h; simp [List.getD, hi]
  · rw [if_neg h]; simp [List.getD, List.getElem?_set_ne (fun e => h e.symm)]
theorem getD_set_ne {α : Type} {l : List α} {i j : Nat} {v d : α} (h : j ≠ i) : (l.set i v).getD j d = l.getD j d := by
  simp [List.getD, List.getElem?_set_ne (fun e => h e.symm)]
theorem get_getD {α : Type} {l : List α} {i : Nat} {d : α} (h : i < l.length) : l[i]? = some (l.getD i d) := by
  simp [List.getD, List.getElem?_eq_getElem h]
theorem getD_mem {α : Type} {l : List α} {n : Nat} {d : α} (h : n < l.length) : l.getD n d ∈ l := by simp [List.getD, h]
theorem getD_of {α : Type} {l : List α} {i : Nat} {d x : α} (h : l[i]? = some x) : l.getD i d = x := by simp [List.getD, h]
@[elab_as_elim] theorem gen_world {motive : World → Prop} {e : Env} {w : World} {A : List HP} (H : Holds e w A) (h : ∀ w', Holds e w' A → motive w') : motive w := h w H
theorem intsA_get {l : List Int} {x : Nat} (h : x < l.length) : (ints l).toArray[x]? = some (.int .i64 (l.getD x 0)) := by
  simp [ints, List.getD, List.getElem?_eq_getElem h]
theorem ints_set (l : List Int) (i : Nat) (v : Int) : (ints l).toArray.setIfInBounds i (.int .i64 v) = (ints (l.set i v)).toArray := by
  simp [ints, List.map_set]
theorem reads_lit1 (w : World) (u : Value) (T : TypeId) : Reads (w.alloc (.cells #[u] T)) (.slice (some ⟨w.heap.size, 0, none⟩) 1 1) 1 1 [u] := by
  refine ⟨rfl, .inr ⟨_, _, rfl, Nat.le_refl _, fun j u hj => ?_⟩⟩
  rw [Addr.add_at, Nat.zero_add, World.cell?_alloc_new]
  simpa using hj
def intsObj (l : List Int) : Obj := .cells (ints l).toArray 3 (0, 0)
def nats (l : List Nat) : List Int := l.map (fun x : Nat => (x : Int))
@[simp] theorem nats_length (l : List Nat) : (nats l).length = l.length := List.length_map _
theorem nats_append (a b : List Nat) : nats (a ++ b) = nats a ++ nats b := by simp [nats]
theorem nats_getD (l : List Nat) (i : Nat) : (nats l).getD i 0 = ((l.getD i 0 : Nat) : Int) := by
  by_cases h : i < l.length
  · simp [nats, List.getD, h]
  · simp [nats, List.getD, List.getElem?_eq_none (Nat.le_of_not_lt h)]
theorem wrap64_wrap (a : Int) (k : Int) : wrap64 (wrap64 a + k) = wrap64 (a + k) := by unfold wrap64; omega
theorem madeI (n : Nat) : madeCells #[Value.int .i64 0] n = (ints (List.replicate n 0)).toArray := by
  apply Array.toList_inj.1
  simp [madeCells, ints, Array.toList_range, List.map_const', Nat.mod_one]
theorem mkI (n : Nat) (hn : n ≤ 4096) (z : Int) (hz : (n : Int) = z) (W : World) : (Instr.makeSlice 24 (.int .i64 z) (.int .i64 z)).run Tryz.prog W = .ok (.slice (some ⟨W.heap.size, 0, none⟩) n n) (W.alloc (.cells (ints (List.replicate n 0)).toArray 3)) := by
  subst hz
  obtain ⟨i0, hi, hz0, hz1, hz2⟩ := info_parts (P := Tryz.prog) (e := 3) (z := .int .i64 0) (size := 1) (bytes := 8) (by kernel_rfl)
  have h := run_make (P := Tryz.prog) W 24 3 i0 (.int .i64 0) (by kernel_rfl) hi hz0 .i64 .i64 (n : Int) (n : Int) (by omega) (by omega) (by rw [hz2]; omega) (by omega)
  rw [hz1] at h
  simpa [madeI, Value.cells] using h
end Go.Proofs.YtjbphdjheklhbaaGreat

/-
  Package num: Put, Get (numbers as bytes).
-/
namespace Go.Proofs.YtjbphdjheklhbaaGreat
open Go.RowKit

def u64v (l : List Nat) : List Value := l.map (fun n : Nat => Value.int .u64 (n : Int))
theorem u64v_get {l : List Nat} {i : Nat} (h : i < l.length) : (u64v l)[i]? = some (.int .u64 ((l.getD i 0 : Nat) : Int)) := by
  simp [u64v, List.getD, List.getElem?_eq_getElem h]
/-- The byte at place i of n. -/
def byteAt (n i : Nat) : UInt8 := UInt8.ofNat (n / 256 ^ i)
def le (k n : Nat) : List UInt8 := (List.range k).map (byteAt n)
theorem le_length (k n : Nat) : (le k n).length = k := by simp [le]

theorem byteAt_toNat (n i : Nat) : (byteAt n i).toNat = n / 256 ^ i % 256 := by simp [byteAt, UInt8.toNat_ofNat']
theorem le_succ (k n : Nat) : le (k + 1) n = le k n ++ [byteAt n k] := by simp [le, List.range_succ]
theorem flatMap_le_length (k : Nat) (l : List Nat) : (l.flatMap (le k)).length = l.length * k := by
  induction l with
  | nil => simp
  | cons x l ih => simp [ih, le_length, Nat.succ_mul]; omega

section
variable {e : Env} {w : World} {R : List HP}
set_option maxRecDepth 100000 in
set_option maxHeartbeats 1000000 in
theorem numPut_any (H : Holds e w R) (k : Nat) (hk : 1 ≤ k) (hk8 : k ≤ 8) (ns : List Nat) (hl : ns.length ≤ 100000) (v : Value) (hr : ∀ w', Holds e w' R → Reads w' v 1 ns.length (u64v ns)) :
    Calls Tryz.prog 52 #[.int .i64 k, v] w (RetEx e (fun v : Value => v) (fun v => bts v (ns.flatMap (le k)) :: R)) := by
  obtain ⟨a, c, rfl⟩ := (hr w H).shape
  go_enter Tryz.func52, Tryz.ntmps52
  go_wp2_with fail
  go_loopw [5, 17] (fun o i wr => ∃ j : Nat, j ≤ ns.length ∧ i = .int .i64 (j : Nat) ∧ Holds e wr (bts o ((ns.take j).flatMap (le k)) :: R)) (fun _ i _ => ns.length - (Go.RowKit.intOf i).toNat)
  case atStart => exact ⟨0, by omega, rfl, bts.nil H⟩
  case round =>
    obtain ⟨j, hj, rfl, HH⟩ := hrel
    by_cases hlt : j < ns.length
    · obtain ⟨g, o, rfl, h1⟩ := (hr _ HH.drop).at (by omega)
      have c1 := h1 j _ (u64v_get hlt)
      obtain ⟨x, hx⟩ : ∃ x, ns.getD j 0 = x := ⟨_, rfl⟩
      rw [hx] at c1
      have HX := Lib.hid hx
      clear hx h1
      go_wp2_with fail
      have hfl : ((ns.take j).flatMap (le k)).length ≤ 800000 := by
        rw [flatMap_le_length]
        have h2 : (ns.take j).length ≤ ns.length := by rw [List.length_take]; omega
        calc (ns.take j).length * k ≤ 100000 * 8 := Nat.mul_le_mul (by omega) (by omega)
          _ = 800000 := rfl
      go_loopw [5, 22] (fun o i wr => ∃ q : Nat, q ≤ k ∧ i = .int .i64 (q : Nat) ∧ Holds e wr (bts o ((ns.take j).flatMap (le k) ++ le q x) :: R)) (fun _ i _ => k - (Go.RowKit.intOf i).toNat)
      case atStart => exact ⟨0, by omega, rfl, by simpa [le] using HH⟩
      case round =>
        obtain ⟨q, hq, rfl, HH⟩ := hrel
        by_cases hqk : q < k
        · go_wp2_with (at_builtin; refine wpList_append_sl rfl _ _ _ rfl 5 1 1 elem_u8 _ _ (u8v ((ns.take j).flatMap (le k) ++ le q x)) rfl ((HH.alloc _).swap) _ 1 [.int .u8 ((x : Int) / 2 ^ (8 * q) % 256)] rfl (reads_lit1 _ _ _) (by simp [Value.oneCell']) ?_ ?_ ?_)
          · rw [List.length_append, le_length]; unfold maxLen; omega
          · rw [List.length_append, le_length]; omega
          intro v' w2 H2
          have e1 : (Value.int .u8 ((x : Int) / 2 ^ (8 * q) % 256)) = .int .u8 ((byteAt x q).toNat : Int) := by
            rw [byteAt_toNat, show (256 : Nat) ^ q = 2 ^ (8 * q) by rw [Nat.pow_mul]]; simp
          rw [e1] at H2
          have H3 : Holds e w2 (bts v' ((ns.take j).flatMap (le k) ++ le (q + 1) x) :: R) := by
            unfold bts
            rw [le_succ, ← List.append_assoc, u8v_append, List.length_append]
            exact row_len (H2.swap).drop (by simp)
          go_wp2_with fail
          go_roundw
          case rel => exact ⟨q + 1, by omega, by go_num, H3⟩
          case measure => simp [Go.RowKit.intOf]; omega
        · obtain rfl : q = k := by omega
          go_wp2_with fail
          go_roundw
          case rel =>
            refine ⟨j + 1, by omega, by go_num, ?_⟩
            rw [List.take_add_one, get_getD (d := 0) hlt, List.flatMap_append]
            rw [HX.out]
            simpa using HH
          case measure => simp [Go.RowKit.intOf]; omega
    · obtain rfl : j = ns.length := by omega
      rw [List.take_length] at HH
      go_wp2_with fail
      go_ret
      exact ⟨_, rfl, HH⟩

/-- The number that bytes tell. -/
def unle : List UInt8 → Nat
  | [] => 0
  | x :: l => x.toNat + 256 * unle l
theorem unle_snoc (l : List UInt8) (x : UInt8) : unle (l ++ [x]) = unle l + x.toNat * 256 ^ l.length := by
  induction l with
  | nil => simp [unle]
  | cons y l ih => simp only [List.cons_append, unle, ih, List.length_cons, Nat.pow_succ]; rw [Nat.mul_add, Nat.add_assoc, Nat.mul_comm (256 ^ l.length) 256, Nat.mul_left_comm]
theorem unle_lt (l : List UInt8) : unle l < 256 ^ l.length := by
  induction l with
  | nil => simp [unle]
  | cons y l ih => simp only [unle, List.length_cons, Nat.pow_succ]; have := y.toNat_lt; omega
theorem unle_le (k n : Nat) (h : n < 256 ^ k) : unle (le k n) = n := by
  have key : ∀ k, unle (le k n) = n % 256 ^ k := by
    intro k
    induction k with
    | zero => simp [le, unle, Nat.mod_one]
    | succ k ih =>
      rw [le_succ, unle_snoc, ih, le_length, byteAt_toNat]
      rw [Nat.pow_succ, Nat.mod_mul, Nat.mul_comm (256 ^ k)]
  rw [key, Nat.mod_eq_of_lt h]

theorem or_add (a b k : Nat) (h : a < 2 ^ k) : a ||| b * 2 ^ k = a + b * 2 ^ k := by
  rw [Nat.or_comm, Nat.mul_comm b, ← Nat.two_pow_add_eq_or_of_lt h, Nat.add_comm]

theorem there_yes {e : Env} {w : World} {R : List HP} (H : Holds e w R) (ad : Option Addr) (n c at' k : Nat) (h1 : 1 ≤ k) (h8 : k ≤ 8) (h : at' + k ≤ n) (hn : n ≤ 4611686018427387904) :
    Calls Tryz.prog 68 #[.slice ad n c, .int .i64 at', .int .i64 k] w (Ret e (.bool true) R) := by
  go_enter Tryz.func68, Tryz.ntmps68
  go_wp2
  go_ret
  exact ⟨by simp; omega, H⟩

set_option maxRecDepth 100000 in
set_option maxHeartbeats 1000000 in
theorem numGet_any (H : Holds e w R) (k : Nat) (hk : 1 ≤ k) (hk8 : k ≤ 8) (l : List UInt8) (at' : Nat) (hat : at' + k ≤ l.length) (hl : l.length ≤ 4611686018427387904) (v : Value) (hr : ∀ w', Holds e w' R → RdB w' v l) :
    Calls Tryz.prog 42 #[v, .int .i64 at', .int .i64 k] w (Ret e (.tuple #[.int .u64 (unle ((l.drop at').take k)), .bool true]) R) := by
  obtain ⟨a, c, rfl⟩ := (hr w H).shape
  go_enter Tryz.func42, Tryz.ntmps42
  go_wp2_with fail
  refine (there_yes H a l.length c at' k hk hk8 hat hl).mono ?_
  rintro e w1 ⟨rfl, H1⟩
  go_wp2_with fail
  go_loopw [8, 16] (fun o i wr => ∃ j : Nat, j ≤ k ∧ i = .int .i64 (j : Nat) ∧ o = .int .u64 (unle ((l.drop at').take j)) ∧ Holds e wr R) (fun _ i _ => k - (Go.RowKit.intOf i).toNat)
  case atStart => exact ⟨0, by omega, rfl, by simp [unle], H1⟩
  case round =>
    obtain ⟨j, hj, rfl, rfl, HH⟩ := hrel
    by_cases hlt : j < k
    · obtain ⟨g, o, rfl, h1⟩ := (hr _ HH).at (by omega)
      have c1 := h1 (at' + j) _ (u8v_get (by omega))
      have hs : unle ((l.drop at').take (j + 1)) = unle ((l.drop at').take j) + (l.getD (at' + j) 0).toNat * 2 ^ (8 * j) := by
        rw [List.take_add_one, List.getElem?_drop, get_getD (d := 0) (by omega), Option.toList_some, unle_snoc, List.length_take, List.length_drop, Nat.min_eq_left (by omega), Nat.pow_mul]
      have hb := unle_lt ((l.drop at').take j)
      rw [List.length_take, List.length_drop, Nat.min_eq_left (by omega), show (256 : Nat) ^ j = 2 ^ (8 * j) by rw [Nat.pow_mul]] at hb
      have hb2 : 2 ^ (8 * j) ≤ 2 ^ 56 := Nat.pow_le_pow_right (by omega) (by omega)
      have hx := (l.getD (at' + j) 0).toNat_lt
      generalize (l.getD (at' + j) 0).toNat = x at *
      generalize unle ((l.drop at').take j) = m at *
      have HS := Lib.hid hs
      clear hs h1
      have hxy : x * 2 ^ (8 * j) < 18446744073709551616 := by
        have h3 : x * 2 ^ (8 * j) < 256 * 2 ^ (8 * j) := Nat.mul_lt_mul_of_pos_right hx (Nat.two_pow_pos _)
        have h4 : 256 * 2 ^ (8 * j) ≤ 256 * 2 ^ 56 := Nat.mul_le_mul_left _ hb2
        omega
      have HE : Hid (bits BinOp.or IntKind.u64 (m : Int) (IntKind.u64.wrap ((x : Int) * 2 ^ (8 * j))) = ((m + x * 2 ^ (8 * j) : Nat) : Int)) := Lib.hid (by
        have e1 : ((x : Int) * 2 ^ (8 * j)) = ((x * 2 ^ (8 * j) : Nat) : Int) := by simp
        rw [IntKind.wrap_u64, e1]
        have e2 : (((x * 2 ^ (8 * j) : Nat) : Int) % 18446744073709551616) = ((x * 2 ^ (8 * j) : Nat) : Int) := Int.emod_eq_of_lt (by omega) (by omega)
        rw [e2, u64_or_nat _ _ (by omega) hxy, or_add _ _ _ hb])
      clear hb hxy hb2
      go_wp2_with fail
      go_roundw
      case rel => exact ⟨j + 1, by omega, by go_num, by rw [HS.out, HE.out], HH⟩
      case measure => simp [Go.RowKit.intOf]; omega
    · obtain rfl : j = k := by omega
      go_wp2_with fail
      go_ret2
      exact ⟨rfl, HH⟩
end
end Go.Proofs.YtjbphdjheklhbaaGreat

/-
  Package va: canonical addresses, pages, offsets; pte.May.
-/
namespace Go.Proofs.YtjbphdjheklhbaaGreat
open Go.RowKit

def canon (a : Nat) : Bool := decide (a < 140737488355328) || decide (18446603336221196288 ≤ a)
def pgOf (a : Nat) : Nat := a / 4096 % 68719476736
def offOf (a : Nat) : Nat := a % 4096
theorem pgOf_lt (a : Nat) : pgOf a < 68719476736 := Nat.mod_lt _ (by decide)
theorem offOf_lt (a : Nat) : offOf a < 4096 := Nat.mod_lt _ (by decide)
/-- The address with the lowest 48 bits of a. -/
def upA (a : Nat) : Nat := if a % 281474976710656 < 140737488355328 then a % 281474976710656 else 18446462598732840960 + a % 281474976710656
theorem upA_eq (a : Nat) (h : a < 18446744073709551616) : decide (upA a = a) = canon a := by
  unfold upA canon
  rw [Bool.eq_iff_iff]
  simp only [Bool.or_eq_true, decide_eq_true_eq]
  split <;> omega

theorem u64_and_mod (a k m : Nat) (ha : a < 18446744073709551616) (hm : m = 2 ^ k - 1) (hk : k ≤ 64) : bits BinOp.and IntKind.u64 (a : Int) (m : Int) = ((a % 2 ^ k : Nat) : Int) := by
  have h2 : 2 ^ k ≤ 2 ^ 64 := Nat.pow_le_pow_right (by omega) hk
  have h3 : 0 < 2 ^ k := Nat.two_pow_pos k
  rw [u64_and_nat _ _ ha (by omega), hm, Nat.and_two_pow_sub_one_eq_mod]

section
variable {w : World}
theorem mask_48 : Calls Tryz.prog 82 #[.int .i64 0, .int .i64 48] w (Quiet w (.int .u64 281474976710655)) := by
  go_enter Tryz.func82, Tryz.ntmps82
  go_wp2_with fail
  go_ret
  exact ⟨rfl, 0, rfl⟩
theorem mask_47 : Calls Tryz.prog 82 #[.int .i64 47, .int .i64 1] w (Quiet w (.int .u64 140737488355328)) := by
  go_enter Tryz.func82, Tryz.ntmps82
  go_wp2_with fail
  go_ret
  exact ⟨rfl, 0, rfl⟩
theorem mask_12 : Calls Tryz.prog 82 #[.int .i64 0, .int .i64 12] w (Quiet w (.int .u64 4095)) := by
  go_enter Tryz.func82, Tryz.ntmps82
  go_wp2_with fail
  go_ret
  exact ⟨rfl, 0, rfl⟩
theorem mask_pg : Calls Tryz.prog 82 #[.int .i64 12, .int .i64 36] w (Quiet w (.int .u64 281474976706560)) := by
  go_enter Tryz.func82, Tryz.ntmps82
  go_wp2_with fail
  go_ret
  exact ⟨rfl, 0, rfl⟩

theorem and_pg (a : Nat) (ha : a < 18446744073709551616) : bits BinOp.and IntKind.u64 (a : Int) 281474976706560 / 2 ^ 12 = ((pgOf a : Nat) : Int) := by
  have h := u64_and_nat a 281474976706560 ha (by decide)
  have e : ((a &&& 281474976706560 : Nat)) / 2 ^ 12 = pgOf a := by
    rw [← Nat.shiftRight_eq_div_pow, Nat.shiftRight_and_distrib, show 281474976706560 >>> 12 = 2 ^ 36 - 1 by rfl, Nat.and_two_pow_sub_one_eq_mod, Nat.shiftRight_eq_div_pow]
    rfl
  have h2 : bits BinOp.and IntKind.u64 (a : Int) 281474976706560 = ((a &&& 281474976706560 : Nat) : Int) := h
  rw [h2, ← e]
  simp
theorem and_47 (a : Nat) (ha : a < 18446744073709551616) : bits BinOp.and IntKind.u64 (a : Int) 140737488355328 / 2 ^ 47 = ((a / 2 ^ 47 % 2 : Nat) : Int) := by
  have h := u64_and_nat a 140737488355328 ha (by decide)
  have e : ((a &&& 140737488355328 : Nat)) / 2 ^ 47 = a / 2 ^ 47 % 2 := by
    rw [← Nat.shiftRight_eq_div_pow, Nat.shiftRight_and_distrib, show 140737488355328 >>> 47 = 2 ^ 1 - 1 by rfl, Nat.and_two_pow_sub_one_eq_mod, Nat.shiftRight_eq_div_pow]
  have h2 : bits BinOp.and IntKind.u64 (a : Int) 140737488355328 = ((a &&& 140737488355328 : Nat) : Int) := h
  rw [h2, ← e]
  simp
set_option maxRecDepth 100000 in
theorem cut_pg (a : Nat) (ha : a < 18446744073709551616) : Calls Tryz.prog 83 #[.int .u64 a, .int .i64 12, .int .i64 36] w (Quiet w (.int .u64 (pgOf a))) := by
  have e := and_pg a ha
  have hm := fun w => mask_pg (w := w)
  go_enter Tryz.func83, Tryz.ntmps83
  go_wp2_with fail
  refine (hm _).mono ?_
  rintro e w1 ⟨rfl, n1, rfl⟩
  go_wp2_with fail
  go_ret
  exact ⟨by rw [← e]; rfl, _, rfl⟩
set_option maxRecDepth 100000 in
theorem cut_47 (a : Nat) (ha : a < 18446744073709551616) : Calls Tryz.prog 83 #[.int .u64 a, .int .i64 47, .int .i64 1] w (Quiet w (.int .u64 ((a / 2 ^ 47 % 2 : Nat) : Int))) := by
  have e := and_47 a ha
  have hm := fun w => mask_47 (w := w)
  go_enter Tryz.func83, Tryz.ntmps83
  go_wp2_with fail
  refine (hm _).mono ?_
  rintro e w1 ⟨rfl, n1, rfl⟩
  go_wp2_with fail
  go_ret
  exact ⟨by rw [← e]; rfl, _, rfl⟩
set_option maxRecDepth 100000 in
theorem cut_off (a : Nat) (ha : a < 18446744073709551616) : Calls Tryz.prog 83 #[.int .u64 a, .int .i64 0, .int .i64 12] w (Quiet w (.int .u64 (offOf a))) := by
  have e := u64_and_mod a 12 4095 ha (by decide) (by decide)
  have hm := fun w => mask_12 (w := w)
  go_enter Tryz.func83, Tryz.ntmps83
  go_wp2_with fail
  refine (hm _).mono ?_
  rintro e w1 ⟨rfl, n1, rfl⟩
  go_wp2_with fail
  go_ret
  exact ⟨by unfold offOf; rw [show (4096 : Nat) = 2 ^ 12 by rfl, ← e]; simp, _, rfl⟩
theorem numBit_47 (a : Nat) (ha : a < 18446744073709551616) : Calls Tryz.prog 81 #[.int .u64 a, .int .i64 47] w (Quiet w (.bool (decide (140737488355328 ≤ a % 281474976710656)))) := by
  have hm := fun w => cut_47 (w := w) a ha
  have e : (((a / 2 ^ 47 % 2 : Nat) : Int) == 1) = decide (140737488355328 ≤ a % 281474976710656) := by
    rw [Bool.eq_iff_iff]; simp only [beq_iff_eq, decide_eq_true_eq]; omega
  generalize ((a / 2 ^ 47 % 2 : Nat) : Int) = x at *
  go_enter Tryz.func81, Tryz.ntmps81
  go_wp2_with fail
  refine (hm _).mono ?_
  rintro e w1 ⟨rfl, n1, rfl⟩
  go_wp2_with fail
  go_ret
  exact ⟨by rw [← e]; rfl, _, rfl⟩
set_option maxRecDepth 100000 in
theorem vaSpread (a : Nat) (ha : a < 18446744073709551616) : Calls Tryz.prog 67 #[.int .u64 a] w (Quiet w (.int .u64 (upA a))) := by
  have hb := fun w => numBit_47 (w := w) a ha
  have hm := fun w => mask_48 (w := w)
  by_cases h : 140737488355328 ≤ a % 281474976710656
  · rw [decide_eq_true h] at hb
    have e1 : upA a = 18446462598732840960 + a % 281474976710656 := by unfold upA; rw [if_neg (by omega)]
    have e2 : bits BinOp.or IntKind.u64 (a : Int) 18446462598732840960 = ((18446462598732840960 + a % 281474976710656 : Nat) : Int) := by
      have h2 := u64_or_nat a 18446462598732840960 ha (by decide)
      have e3 : (a ||| 18446462598732840960 : Nat) = 18446462598732840960 + a % 281474976710656 := by
        apply Nat.eq_of_testBit_eq
        intro i
        rw [Nat.testBit_or]
        by_cases hi : i < 48
        · have q1 : Nat.testBit 18446462598732840960 i = false := by
            rw [show 18446462598732840960 = 65535 * 2 ^ 48 by rfl, Nat.testBit_mul_two_pow]
            simp; omega
          have q2 : (18446462598732840960 + a % 281474976710656).testBit i = (a % 2 ^ 48).testBit i := by
            rw [show 18446462598732840960 = 65535 * 2 ^ 48 by rfl, Nat.mul_comm, Nat.testBit_two_pow_mul_add _ (by omega), if_pos hi]
          rw [q1, q2, Nat.testBit_mod_two_pow]
          simp [hi]
        · have q2 : (18446462598732840960 + a % 281474976710656).testBit i = Nat.testBit 65535 (i - 48) := by
            rw [show 18446462598732840960 = 65535 * 2 ^ 48 by rfl, Nat.mul_comm, Nat.testBit_two_pow_mul_add _ (by omega), if_neg hi]
          have q1 : Nat.testBit 18446462598732840960 i = Nat.testBit 65535 (i - 48) := by
            rw [show 18446462598732840960 = 65535 * 2 ^ 48 by rfl, Nat.testBit_mul_two_pow]
            simp; omega
          rw [q1, q2]
          by_cases hi2 : i < 64
          · have : Nat.testBit 65535 (i - 48) = true := by
              rw [show 65535 = 2 ^ 16 - 1 by rfl, Nat.testBit_two_pow_sub_one]
              simp; omega
            rw [this]; simp
          · have : a.testBit i = false := Nat.testBit_lt_two_pow (Nat.lt_of_lt_of_le ha (by
              calc 18446744073709551616 = 2 ^ 64 := rfl
                _ ≤ 2 ^ i := Nat.pow_le_pow_right (by omega) (by omega)))
            rw [this]; simp
      rw [← e3, ← h2]; rfl
    rw [e1]
    have E2 := Lib.hid e2
    clear e1 e2 h
    go_enter Tryz.func67, Tryz.ntmps67
    go_wp2_with fail
    refine (hb _).mono ?_
    rintro e w1 ⟨rfl, n1, rfl⟩
    go_wp2_with fail
    refine (hm _).mono ?_
    rintro e w1 ⟨rfl, n2, rfl⟩
    go_wp2_with fail
    go_ret
    refine ⟨?_, _, rfl⟩
    show Ending.returned (.int .u64 (bits BinOp.or IntKind.u64 (a : Int) (bits BinOp.xor IntKind.u64 IntKind.u64.max 281474976710655))) = _
    rw [show bits BinOp.xor IntKind.u64 IntKind.u64.max 281474976710655 = 18446462598732840960 by rfl, E2.out]
    simp
  · rw [decide_eq_false h] at hb
    have e1 : upA a = a % 281474976710656 := by unfold upA; rw [if_pos (by omega)]
    have E2 := Lib.hid (u64_and_mod a 48 281474976710655 ha (by decide) (by decide))
    rw [e1]
    clear e1 h
    go_enter Tryz.func67, Tryz.ntmps67
    go_wp2_with fail
    refine (hb _).mono ?_
    rintro e w1 ⟨rfl, n1, rfl⟩
    go_wp2_with fail
    refine (hm _).mono ?_
    rintro e w1 ⟨rfl, n2, rfl⟩
    go_wp2_with fail
    go_ret
    exact ⟨by rw [show (281474976710656 : Nat) = 2 ^ 48 by rfl, ← E2.out]; rfl, _, rfl⟩
theorem vaCanon (a : Nat) (ha : a < 18446744073709551616) : Calls Tryz.prog 84 #[.int .u64 a] w (Quiet w (.bool (canon a))) := by
  have hm := fun w => vaSpread (w := w) a ha
  have e : ((upA a : Int) == (a : Int)) = canon a := by
    rw [← upA_eq a ha, Bool.eq_iff_iff]; simp only [beq_iff_eq, decide_eq_true_eq]; omega
  generalize upA a = x at *
  go_enter Tryz.func84, Tryz.ntmps84
  go_wp2_with fail
  refine (hm _).mono ?_
  rintro e w1 ⟨rfl, n1, rfl⟩
  go_wp2_with fail
  go_ret
  exact ⟨by rw [← e]; rfl, _, rfl⟩
theorem vaPage (a : Nat) (ha : a < 18446744073709551616) : Calls Tryz.prog 70 #[.int .u64 a] w (Quiet w (.int .i64 (pgOf a))) := by
  have hm := fun w => cut_pg (w := w) a ha
  have hb := pgOf_lt a
  generalize pgOf a = x at *
  go_enter Tryz.func70, Tryz.ntmps70
  go_wp2_with fail
  refine (hm _).mono ?_
  rintro e w1 ⟨rfl, n1, rfl⟩
  go_wp2_with fail
  go_ret
  exact ⟨rfl, _, rfl⟩
theorem vaOffset (a : Nat) (ha : a < 18446744073709551616) : Calls Tryz.prog 85 #[.int .u64 a] w (Quiet w (.int .i64 (offOf a))) := by
  have hm := fun w => cut_off (w := w) a ha
  have hb := offOf_lt a
  generalize offOf a = x at *
  go_enter Tryz.func85, Tryz.ntmps85
  go_wp2_with fail
  refine (hm _).mono ?_
  rintro e w1 ⟨rfl, n1, rfl⟩
  go_wp2_with fail
  go_ret
  exact ⟨rfl, _, rfl⟩

def mayP (p : Int) : Bool := p == 1 || p == 3 || p == 4 || p == 5 || p == 7
theorem mayP_cases (p : Int) : (p = 1 ∧ mayP p = true) ∨ (p = 3 ∧ mayP p = true) ∨ (p = 4 ∧ mayP p = true) ∨ (p = 5 ∧ mayP p = true) ∨ (p = 7 ∧ mayP p = true) ∨ (p ≠ 1 ∧ p ≠ 3 ∧ p ≠ 4 ∧ p ≠ 5 ∧ p ≠ 7 ∧ mayP p = false) := by
  by_cases h1 : p = 1
  · subst h1; decide
  by_cases h3 : p = 3
  · subst h3; decide
  by_cases h4 : p = 4
  · subst h4; decide
  by_cases h5 : p = 5
  · subst h5; decide
  by_cases h7 : p = 7
  · subst h7; decide
  · exact .inr (.inr (.inr (.inr (.inr ⟨h1, h3, h4, h5, h7, by simp [mayP, h1, h3, h4, h5, h7]⟩))))
theorem mayP_bd {p : Int} (h : mayP p = true) : 0 ≤ p ∧ p ≤ 7 := by
  rcases mayP_cases p with ⟨rfl, _⟩ | ⟨rfl, _⟩ | ⟨rfl, _⟩ | ⟨rfl, _⟩ | ⟨rfl, _⟩ | ⟨_, _, _, _, _, h'⟩
  case inr.inr.inr.inr.inr => rw [h] at h'; cases h'
  all_goals omega

set_option maxHeartbeats 1000000 in
theorem pteMay (p : Int) : Calls Tryz.prog 73 #[.int .i64 p] w (Quiet w (.bool (mayP p))) := by
  rcases mayP_cases p with ⟨rfl, h⟩ | ⟨rfl, h⟩ | ⟨rfl, h⟩ | ⟨rfl, h⟩ | ⟨rfl, h⟩ | ⟨h1, h3, h4, h5, h7, h⟩
  case inr.inr.inr.inr.inr =>
    rw [h]
    rcases (by omega : p < 1 ∨ (1 ≤ p ∧ 7 < p) ∨ p = 2 ∨ p = 6) with g | ⟨g, g2⟩ | rfl | rfl
    all_goals
      clear h
      go_enter Tryz.func73, Tryz.ntmps73
      go_wp2
      try go_bits
      go_ret
      exact ⟨by first | rfl | decide, 0, rfl⟩
  all_goals
    rw [h]
    clear h
    go_enter Tryz.func73, Tryz.ntmps73
    go_wp2
    try go_bits
    go_ret
    exact ⟨by first | rfl | decide, 0, rfl⟩
end
end Go.Proofs.YtjbphdjheklhbaaGreat

/-
  Layer 30, the document's answers: bits, canonical addresses, pages.
-/
namespace Go.Proofs.YtjbphdjheklhbaaGreat
open Go.RowKit

theorem all_same {h : Nat} (hh : h < 131072) : (∀ i, 1 ≤ i → i < 17 → h.testBit i = h.testBit 0) ↔ (h = 0 ∨ h = 131071) := by
  constructor
  · intro ha
    cases h0 : h.testBit 0
    · left
      apply Nat.eq_of_testBit_eq
      intro i
      rw [Nat.zero_testBit]
      by_cases hi : i < 17
      · by_cases hz : i = 0
        · subst hz; exact h0
        · rw [ha i (by omega) hi, h0]
      · exact Nat.testBit_lt_two_pow (Nat.lt_of_lt_of_le hh (Nat.pow_le_pow_right (n := 2) (by omega) (show 17 ≤ i by omega)))
    · right
      apply Nat.eq_of_testBit_eq
      intro i
      rw [show 131071 = 2 ^ 17 - 1 by rfl, Nat.testBit_two_pow_sub_one]
      by_cases hi : i < 17
      · rw [decide_eq_true hi]
        by_cases hz : i = 0
        · subst hz; exact h0
        · rw [ha i (by omega) hi, h0]
      · rw [decide_eq_false hi]
        exact Nat.testBit_lt_two_pow (Nat.lt_of_lt_of_le hh (Nat.pow_le_pow_right (n := 2) (by omega) (show 17 ≤ i by omega)))
  · rintro (rfl | rfl) i h1 h2
    · simp
    · rw [show 131071 = 2 ^ 17 - 1 by rfl, Nat.testBit_two_pow_sub_one, Nat.testBit_two_pow_sub_one, decide_eq_true h2]; rfl
/-- The bit of a number at a place. -/
def bitN (a i : Nat) : Bool := decide (a / 2 ^ i % 2 = 1)
theorem bitN_test (a i : Nat) : bitN a i = a.testBit i := by
  unfold bitN
  rw [Nat.testBit_eq_decide_div_mod_eq]
theorem canon_bits {a : Nat} (ha : a < 18446744073709551616) : canon a = true ↔ ∀ i, 48 ≤ i → i < 64 → bitN a i = bitN a 47 := by
  have hh : a / 2 ^ 47 < 131072 := by omega
  have h1 := all_same hh
  have e1 : (∀ i, 48 ≤ i → i < 64 → bitN a i = bitN a 47) ↔ (∀ i, 1 ≤ i → i < 17 → (a / 2 ^ 47).testBit i = (a / 2 ^ 47).testBit 0) := by
    constructor
    · intro h i h1 h2
      have := h (i + 47) (by omega) (by omega)
      rw [bitN_test, bitN_test] at this
      rw [Nat.testBit_div_two_pow, Nat.testBit_div_two_pow, Nat.zero_add]
      exact this
    · intro h i h1 h2
      have := h (i - 47) (by omega) (by omega)
      rw [Nat.testBit_div_two_pow, Nat.testBit_div_two_pow, Nat.zero_add, show i - 47 + 47 = i by omega] at this
      rw [bitN_test, bitN_test]
      exact this
  rw [e1, h1]
  unfold canon
  rw [Bool.or_eq_true, decide_eq_true_eq, decide_eq_true_eq]
  omega
section
variable {w : World}
set_option maxRecDepth 100000 in
theorem ref01Bit (a : Nat) (ha : a < 18446744073709551616) (k : Nat) (hk : k ≤ 63) : Calls Tryz.prog 86 #[.int .u64 a, .int .i64 k] w (Quiet w (.bool (bitN a k))) := by
  have e0 : decide ((k : Int) < 0) = false := decide_eq_false (by omega)
  have e1 : decide ((63 : Int) < (k : Int)) = false := decide_eq_false (by omega)
  go_enter Tryz.func86, Tryz.ntmps86
  go_wp2_with fail
  go_loopw [0, 5] (fun x i wr => ∃ (j y : Nat), j ≤ k ∧ i = .int .i64 (j : Nat) ∧ x = .int .u64 (y : Nat) ∧ y < 18446744073709551616 ∧ Hid (a / 2 ^ j = y) ∧ ∃ m, wr = w.drewN m) (fun _ i _ => k - (Go.RowKit.intOf i).toNat)
  case atStart => exact ⟨0, a, by omega, rfl, rfl, ha, Lib.hid (by simp), 0, rfl⟩
  case round =>
    obtain ⟨j, y, hj, rfl, rfl, hy, hz, m, rfl⟩ := hrel
    by_cases hlt : j < k
    · have hz2 : Hid (a / 2 ^ (j + 1) = y / 2) := Lib.hid (by rw [Nat.pow_succ, ← Nat.div_div_eq_div_mul, hz.out])
      clear hz
      obtain ⟨z, hzz⟩ : ∃ z, y / 2 = z := ⟨_, rfl⟩
      have i1 : (y : Int) / 2 = (z : Int) := by omega
      have hzb : z < 18446744073709551616 := by omega
      rw [hzz] at hz2
      clear hzz
      go_wp2_with fail
      go_roundw
      case rel => exact ⟨j + 1, z, by omega, by go_num, by go_num, hzb, hz2, _, rfl⟩
      case measure => simp [Go.RowKit.intOf]; omega
    · obtain rfl : k = j := by omega
      have HB : Hid (bitN a k = decide (y % 2 = 1)) := Lib.hid (by unfold bitN; rw [hz.out])
      have hd : ((y : Int) % 2 == 1) = decide (y % 2 = 1) := by rw [Bool.eq_iff_iff]; simp; omega
      clear hz
      go_wp2_with fail
      go_ret
      exact ⟨by rw [HB.out, ← hd]; rfl, _, rfl⟩
set_option maxRecDepth 100000 in
theorem ref30Canon (a : Nat) (ha : a < 18446744073709551616) : Calls Tryz.prog 78 #[.int .u64 a] w (Quiet w (.bool (canon a))) := by
  have CB := Lib.hid fun k (hk : k ≤ 63) w' => ref01Bit (w := w') a ha k hk
  have HC := Lib.hid (canon_bits ha)
  go_enter Tryz.func78, Tryz.ntmps78
  go_wp2_with fail
  go_loopw [3] (fun i wr => ∃ (j : Nat), j ≤ 64 ∧ 48 ≤ j ∧ i = .int .i64 (j : Nat) ∧ Hid (∀ i, 48 ≤ i → i < j → bitN a i = bitN a 47) ∧ ∃ m, wr = w.drewN m) (fun i _ => 64 - (Go.RowKit.intOf i).toNat)
  case atStart => exact ⟨48, by omega, by omega, rfl, Lib.hid (fun i h1 h2 => by omega), 0, rfl⟩
  case round =>
    obtain ⟨j, hj, hj2, rfl, hz, m, rfl⟩ := hrel
    by_cases hlt : j < 64
    · have C1 := Lib.hid (CB.out j (by omega))
      have C2 := Lib.hid (CB.out 47 (by omega))
      obtain ⟨b1, hb1⟩ : ∃ b, bitN a j = b := ⟨_, rfl⟩
      obtain ⟨b2, hb2⟩ : ∃ b, bitN a 47 = b := ⟨_, rfl⟩
      rw [hb1] at C1
      rw [hb2] at C2
      have HS : Hid (b1 = b2 → ∀ i, 48 ≤ i → i < j + 1 → bitN a i = bitN a 47) := Lib.hid fun hb i h1 h2 => by
        rcases Nat.lt_succ_iff_lt_or_eq.1 h2 with h2 | rfl
        · exact hz.out i h1 h2
        · rw [hb1, hb2, hb]
      have HF : Hid (b1 ≠ b2 → canon a = false) := Lib.hid fun hb => by
        cases hc : canon a with
        | false => rfl
        | true => exact absurd (by rw [← hb1, ← hb2]; exact HC.out.1 hc j hj2 hlt) hb
      clear hz hb1 hb2
      cases b1 <;> cases b2
      · have hz2 := Lib.hid (HS.out rfl)
        clear HS HF
        go_wp2_with fail
        refine (C1.out _).mono ?_
        rintro e w1 ⟨rfl, n1, rfl⟩
        go_wp2_with fail
        refine (C2.out _).mono ?_
        rintro e w1 ⟨rfl, n2, rfl⟩
        go_wp2_with fail
        go_roundw
        case rel => exact ⟨j + 1, by omega, by omega, by go_num, hz2, _, rfl⟩
        case measure => simp [Go.RowKit.intOf]; omega
      · have HF2 := Lib.hid (HF.out (by decide))
        clear HS HF
        go_wp2_with fail
        refine (C1.out _).mono ?_
        rintro e w1 ⟨rfl, n1, rfl⟩
        go_wp2_with fail
        refine (C2.out _).mono ?_
        rintro e w1 ⟨rfl, n2, rfl⟩
        go_wp2_with fail
        go_ret
        exact ⟨by rw [HF2.out]; rfl, _, rfl⟩
      · have HF2 := Lib.hid (HF.out (by decide))
        clear HS HF
        go_wp2_with fail
        refine (C1.out _).mono ?_
        rintro e w1 ⟨rfl, n1, rfl⟩
        go_wp2_with fail
        refine (C2.out _).mono ?_
        rintro e w1 ⟨rfl, n2, rfl⟩
        go_wp2_with fail
        go_ret
        exact ⟨by rw [HF2.out]; rfl, _, rfl⟩
      · have hz2 := Lib.hid (HS.out rfl)
        clear HS HF
        go_wp2_with fail
        refine (C1.out _).mono ?_
        rintro e w1 ⟨rfl, n1, rfl⟩
        go_wp2_with fail
        refine (C2.out _).mono ?_
        rintro e w1 ⟨rfl, n2, rfl⟩
        go_wp2_with fail
        go_roundw
        case rel => exact ⟨j + 1, by omega, by omega, by go_num, hz2, _, rfl⟩
        case measure => simp [Go.RowKit.intOf]; omega
    · obtain rfl : j = 64 := by omega
      have HF : Hid (canon a = true) := Lib.hid (HC.out.2 hz.out)
      clear hz
      go_wp2_with fail
      go_ret
      exact ⟨by rw [HF.out]; rfl, _, rfl⟩
set_option maxRecDepth 100000 in
theorem ref30Page (a : Nat) (ha : a < 18446744073709551616) : Calls Tryz.prog 62 #[.int .u64 a] w (Quiet w (.int .i64 (pgOf a))) := by
  obtain ⟨x, hx⟩ : ∃ x, a % 281474976710656 = x := ⟨_, rfl⟩
  have i1 : (a : Int) % 281474976710656 = (x : Int) := by omega
  have i2 : (x : Int) / 4096 = ((pgOf a : Nat) : Int) := by unfold pgOf; omega
  have hb := pgOf_lt a
  have hw : IntKind.i64.wrap ((pgOf a : Nat) : Int) = ((pgOf a : Nat) : Int) := IntWalk.i64_in _ (by omega)
  generalize pgOf a = p at *
  clear hx
  go_enter Tryz.func62, Tryz.ntmps62
  go_wp2_with fail
  go_ret
  exact ⟨rfl, 0, rfl⟩
set_option maxRecDepth 100000 in
theorem ref30Up (a : Nat) (ha : a < 18446744073709551616) : Calls Tryz.prog 38 #[.int .u64 a] w (Quiet w (.int .u64 (upA a))) := by
  obtain ⟨x, hx⟩ : ∃ x, a % 281474976710656 = x := ⟨_, rfl⟩
  have i1 : (a : Int) % 281474976710656 = (x : Int) := by omega
  have HU : Hid (upA a = if x < 140737488355328 then x else 18446462598732840960 + x) := Lib.hid (by unfold upA; rw [hx])
  have hxb : x < 281474976710656 := by omega
  clear hx
  by_cases h : x < 140737488355328
  · have d1 : decide ((140737488355328 : Int) ≤ (x : Int)) = false := decide_eq_false (by omega)
    go_enter Tryz.func38, Tryz.ntmps38
    go_wp2_with fail
    go_ret
    exact ⟨by rw [HU.out, if_pos h, ← i1]; rfl, 0, rfl⟩
  · have d1 : decide ((140737488355328 : Int) ≤ (x : Int)) = true := decide_eq_true (by omega)
    obtain ⟨y, hy⟩ : ∃ y, 18446462598732840960 + x = y := ⟨_, rfl⟩
    have HY := Lib.hid hy
    have i3 : (x : Int) + 18446462598732840960 = (y : Int) := by omega
    have yb : y < 18446744073709551616 := by omega
    clear hy
    go_enter Tryz.func38, Tryz.ntmps38
    go_wp2_with fail
    go_ret
    exact ⟨by rw [HU.out, if_neg h, HY.out]; rfl, 0, rfl⟩
end
end Go.Proofs.YtjbphdjheklhbaaGreat

/-
  Maps keyed by numbers, in the separation logic. No program in sight.
-/
namespace Go.Proofs.YtjbphdjheklhbaaGreat
open Go.RowKit
open Go.MapKept (Stamped IsKey findNow_spec)

structure MFit (es : Array MapEntry) (clock N : Nat) (D : Int → Option Value) : Prop where
  stamped : Stamped es clock
  each : ∀ x ∈ es.toList, ∃ k : Int, x.key = .int .i64 k ∧ 0 ≤ k ∧ k < N ∧ D k = some x.val
  cover : ∀ k v, D k = some v → ∃ x ∈ es.toList, x.key = .int .i64 k
/-- Block b is a map of keys below N: D. -/
def mapZ (b N : Nat) (D : Int → Option Value) : HP := exh fun p : Array MapEntry × Nat => grp [pur (MFit p.1 p.2 N D), pts b (.map p.1 p.2)]

section
variable {P : Program} {e : Env} {w : World} {R : List HP} {b N : Nat} {D : Int → Option Value} {t kt et : TypeId}
theorem mapZ_open (H : Holds e w (mapZ b N D :: R)) : ∃ es clock, MFit es clock N D ∧ Holds e w (pts b (.map es clock) :: R) := by
  obtain ⟨⟨es, clock⟩, h⟩ := Holds.exE H
  have h2 := h.ungrp
  exact ⟨es, clock, h2.purE, h2.drop⟩
theorem mapZ_close {es : Array MapEntry} {clock : Nat} (F : MFit es clock N D) (H : Holds e w (pts b (.map es clock) :: R)) : Holds e w (mapZ b N D :: R) :=
  Holds.mkExh (es, clock) (Holds.mkGrp (L := [pur _, pts _ _]) (Holds.mkPur F H))
theorem MFit.key {es : Array MapEntry} {clock : Nat} (F : MFit es clock N D) {x y : MapEntry} (hx : x ∈ es.toList) (hy : y ∈ es.toList) (h : x.key = y.key) : x = y := by
  have h3 := List.pairwise_map.1 F.stamped.2.2
  obtain ⟨i, hi, e1⟩ := List.getElem_of_mem hx
  obtain ⟨j, hj, e2⟩ := List.getElem_of_mem hy
  have := List.pairwise_iff_getElem.1 h3
  rcases Nat.lt_trichotomy i j with hl | hl | hl
  · exact absurd (by rw [e1, e2]; exact h) (this i j hi hj hl)
  · subst hl; rw [← e1, ← e2]
  · exact absurd (by rw [e1, e2]; exact h.symm) (this j i hj hi hl)
theorem nodup_lenM {l : List Nat} {n : Nat} (hn : l.Nodup) (h : ∀ x ∈ l, x < n) : l.length ≤ n := by
  induction n generalizing l with
  | zero => cases l with
    | nil => exact Nat.le_refl _
    | cons a m => exact absurd (h a (by simp)) (by omega)
  | succ n ih =>
    have h1 := ih (l := l.erase n) (hn.erase n) (fun x hx => by
      have h2 := h x (List.mem_of_mem_erase hx)
      have h3 : x ≠ n := by rintro rfl; exact hn.not_mem_erase hx
      omega)
    have h4 := List.length_erase (l := l) (a := n)
    split at h4 <;> omega
theorem MFit.size {es : Array MapEntry} {clock : Nat} (F : MFit es clock N D) : es.size ≤ N := by
  have h1 : (es.toList.map fun x => match x.key with | .int _ k => k.toNat | _ => 0).Nodup := by
    obtain ⟨_, _, h3⟩ := F.stamped
    refine List.pairwise_map.2 ((List.pairwise_map.1 h3).imp_of_mem fun {x y} hx hy hne he => hne ?_)
    obtain ⟨k, hk, k0, _⟩ := F.each x hx
    obtain ⟨j, hj, j0, _⟩ := F.each y hy
    rw [hk, hj] at he ⊢
    dsimp only at he
    have : k = j := by omega
    rw [this]
  have h2 := nodup_lenM (n := N) h1 fun n hn => by
    obtain ⟨x, hx, rfl⟩ := List.mem_map.1 hn
    obtain ⟨k, hk, k0, k1, _⟩ := F.each x hx
    rw [hk]
    dsimp only
    omega
  simpa using h2

theorem run_findZ (hk : P.underlying kt = some (.int .i64)) (x : Int) (es : Array MapEntry) (hes : ∀ y ∈ es.toList, ∃ k : Int, y.key = .int .i64 k) :
    ((Instr.findKey kt (.int .i64 x) es.toList).run P w = .ok none w ∧ ∀ y ∈ es.toList, y.key ≠ .int .i64 x) ∨
    ∃ j y, (Instr.findKey kt (.int .i64 x) es.toList).run P w = .ok (some (j, y.val)) w ∧ es.toList[j]? = some y ∧ y.key = .int .i64 x := by
  rcases findNow_spec (d := .int .i64) (k := .int .i64 x) rfl es.toList 0 (fun y hy => by obtain ⟨k, hk⟩ := hes y hy; rw [hk]; rfl) with ⟨h1, h2⟩ | ⟨j, y, h1, h2, h3⟩
  · exact .inl ⟨MapKept.run_findKey hk h1, h2⟩
  · rw [Nat.zero_add] at h1
    exact .inr ⟨j, y, MapKept.run_findKey hk h1, h2, h3⟩
theorem checkZ (hk : P.underlying kt = some (.int .i64)) (x : Int) (em : Bool) : (Instr.checkKey em 10000 kt (.int .i64 x)).run P w = .ok () w := MapKept.run_checkKey (d := .int .i64) (k := .int .i64 x) hk rfl em 9999

theorem mapZ_lookup (H : Holds e w (mapZ b N D :: R)) (ht : P.underlying t = some (.map kt et)) (hk : P.underlying kt = some (.int .i64)) {z : Value} (hz : (zeroValue et).run P w = .ok z w) (c : Bool) (x : Int) :
    (Instr.lookup t (.map (some b)) (.int .i64 x) c).run P w = .ok (if c then .tuple #[(D x).getD z, .bool (D x).isSome] else (D x).getD z) w := by
  obtain ⟨es, clock, F, h⟩ := mapZ_open H
  have hb := h.get
  rcases run_findZ (P := P) (w := w) hk x es (fun y hy => by obtain ⟨k, hk, _⟩ := F.each y hy; exact ⟨k, hk⟩) with ⟨h1, h2⟩ | ⟨j, y, h1, h2, h3⟩
  · have hD : D x = none := by
      cases hd : D x with
      | none => rfl
      | some v => obtain ⟨y, hy, hyk⟩ := F.cover x v hd; exact absurd hyk (h2 y hy)
    simp [Instr.lookup, run_underlying ht, MapKept.run_getObj_map hb, checkZ hk, h1, hz, Result.andThen, hD]
  · obtain ⟨k, hk1, _, _, hd⟩ := F.each y (List.mem_of_getElem? h2)
    have : k = x := by rw [h3] at hk1; cases hk1; rfl
    subst this
    simp [Instr.lookup, run_underlying ht, MapKept.run_getObj_map hb, checkZ hk, h1, Result.andThen, hd]

theorem setBlock_holds {es es' : Array MapEntry} {clock clock' : Nat} (h : Holds e w (pts b (.map es clock) :: R)) : Holds e (ChangeMaps.setBlock w b (.map es' clock')) (pts b (.map es' clock') :: R) := by
  obtain ⟨h1, h2⟩ := MapKept.heap_set (o' := .map es' clock') h.get
  exact h.setObj rfl rfl rfl h1 h2

def mput (D : Int → Option Value) (x : Int) (v : Value) : Int → Option Value := fun k => if k = x then some v else D k
def mdel (D : Int → Option Value) (x : Int) : Int → Option Value := fun k => if k = x then none else D k

theorem mapZ_update (H : Holds e w (mapZ b N D :: R)) (ht : P.underlying t = some (.map kt et)) (hk : P.underlying kt = some (.int .i64)) {x : Int} (h0 : 0 ≤ x) (hN : x < N) (v : Value) :
    ∃ w', (Instr.mapUpdate t (.map (some b)) (.int .i64 x) v).run P w = .ok () w' ∧ Holds e w' (mapZ b N (mput D x v) :: R) := by
  obtain ⟨es, clock, F, h⟩ := mapZ_open H
  have hb := h.get
  rcases run_findZ (P := P) (w := w) hk x es (fun y hy => by obtain ⟨k, hk, _⟩ := F.each y hy; exact ⟨k, hk⟩) with ⟨h1, h2⟩ | ⟨j, y, h1, h2, h3⟩
  · refine ⟨ChangeMaps.setBlock w b (.map (es.push ⟨.int .i64 x, v, clock⟩) (clock + 1)), ?_, mapZ_close ⟨MapKept.stamped_push F.stamped h2, ?_, ?_⟩ (setBlock_holds h)⟩
    · simp [Instr.mapUpdate, run_underlying ht, MapKept.run_getObj_map hb, checkZ hk, h1, MapKept.run_setObj_map _ hb, Result.andThen, ChangeMaps.setBlock]
    · intro y hy
      simp only [Array.toList_push, List.mem_append, List.mem_singleton] at hy
      rcases hy with hy | rfl
      · obtain ⟨k, k1, k2, k3, k4⟩ := F.each y hy
        refine ⟨k, k1, k2, k3, ?_⟩
        rw [mput, if_neg (by rintro rfl; exact h2 y hy k1)]
        exact k4
      · exact ⟨x, rfl, h0, hN, by simp [mput]⟩
    · intro k u hku
      unfold mput at hku
      by_cases hkx : k = x
      · subst hkx; exact ⟨⟨.int .i64 k, v, clock⟩, by simp, rfl⟩
      · rw [if_neg hkx] at hku
        obtain ⟨y, hy, hyk⟩ := F.cover k u hku
        exact ⟨y, by simp [hy], hyk⟩
  · have hj : j < es.size := by simpa using (List.getElem?_eq_some_iff.1 h2).1
    have hy : es[j]? = some y := by rw [← Array.getElem?_toList]; exact h2
    have hyj := (Array.getElem?_eq_some_iff.1 hy).2
    have hst : (Instr.keyThatStays y.key (.int .i64 x)).run P w = .ok (.int .i64 x) w := by rw [h3]; exact MapKept.run_keyThatStays (d := .int .i64) rfl
    have hmo : (es.modify j fun z => { z with key := .int .i64 x, val := v }).toList = es.toList.set j ⟨.int .i64 x, v, y.born⟩ := by
      apply List.ext_getElem?
      intro i
      rw [Array.getElem?_toList, Array.getElem?_modify, List.getElem?_set]
      by_cases hij : j = i
      · subst hij; simp [hj, hyj]
      · simp [hij]
    refine ⟨ChangeMaps.setBlock w b (.map (es.modify j fun z => { z with key := .int .i64 x, val := v }) clock), ?_, mapZ_close ⟨?_, ?_, ?_⟩ (setBlock_holds h)⟩
    · simp [Instr.mapUpdate, run_underlying ht, MapKept.run_getObj_map hb, checkZ hk, h1, MapKept.run_setObj_map _ hb, Result.andThen, ChangeMaps.setBlock, hy, hst]
    · obtain ⟨s1, s2, s3⟩ := F.stamped
      have hm : y ∈ es.toList := List.mem_of_getElem? h2
      refine ⟨?_, ?_, ?_⟩
      · intro z hz
        rw [hmo] at hz
        rcases List.mem_or_eq_of_mem_set hz with hz | rfl
        · exact s1 z hz
        · exact s1 y hm
      · have : (es.modify j fun z => { z with key := .int .i64 x, val := v }).toList.map (·.born) = es.toList.map (·.born) := by
          rw [hmo, List.map_set]
          apply List.ext_getElem?
          intro i
          rw [List.getElem?_set]
          split
          · next hij => subst hij; simp [hj, hyj]
          · rfl
        rw [this]; exact s2
      · have : (es.modify j fun z => { z with key := .int .i64 x, val := v }).toList.map (·.key) = es.toList.map (·.key) := by
          rw [hmo, List.map_set]
          apply List.ext_getElem?
          intro i
          rw [List.getElem?_set]
          split
          · next hij => subst hij; simp [hj, hyj, h3]
          · rfl
        rw [this]; exact s3
    · intro z hz
      rw [hmo] at hz
      obtain ⟨i, hi⟩ := List.mem_iff_getElem?.1 hz
      rw [List.getElem?_set] at hi
      by_cases hij : j = i
      · subst hij
        rw [if_pos rfl, if_pos (by simpa using hj)] at hi
        cases hi
        exact ⟨x, rfl, h0, hN, by simp [mput]⟩
      · rw [if_neg hij] at hi
        have hz' := List.mem_of_getElem? hi
        obtain ⟨k, k1, k2, k3, k4⟩ := F.each z hz'
        refine ⟨k, k1, k2, k3, ?_⟩
        rw [mput, if_neg]
        · exact k4
        · rintro rfl
          have := List.pairwise_iff_getElem.1 (List.pairwise_map.1 F.stamped.2.2)
          have e1 : z.key = y.key := k1.trans h3.symm
          obtain ⟨hi1, hi2⟩ := List.getElem?_eq_some_iff.1 hi
          obtain ⟨hj1, hj2⟩ := List.getElem?_eq_some_iff.1 h2
          rcases Nat.lt_or_gt_of_ne hij with hl | hl
          · exact this j i hj1 hi1 hl (by rw [hi2, hj2]; exact e1.symm)
          · exact this i j hi1 hj1 hl (by rw [hi2, hj2]; exact e1)
    · intro k u hku
      unfold mput at hku
      by_cases hkx : k = x
      · subst hkx; exact ⟨⟨.int .i64 k, v, y.born⟩, by rw [hmo]; exact List.mem_iff_getElem?.2 ⟨j, by rw [List.getElem?_set, if_pos rfl, if_pos (by simpa using hj)]⟩, rfl⟩
      · rw [if_neg hkx] at hku
        obtain ⟨z, hz, hzk⟩ := F.cover k u hku
        obtain ⟨i, hi⟩ := List.mem_iff_getElem?.1 hz
        refine ⟨z, ?_, hzk⟩
        rw [hmo]
        refine List.mem_iff_getElem?.2 ⟨i, ?_⟩
        rw [List.getElem?_set, if_neg]
        · exact hi
        · rintro rfl
          rw [h2] at hi
          cases hi
          rw [h3] at hzk
          cases hzk
          exact hkx rfl

theorem mapZ_delete (H : Holds e w (mapZ b N D :: R)) (ht : P.underlying t = some (.map kt et)) (hk : P.underlying kt = some (.int .i64)) (ty : TypeId) (x : Int) :
    ∃ w', (Builtin.delete_ #[t, kt] ty #[.map (some b), .int .i64 x]).run P w = .ok (.tuple #[]) w' ∧ Holds e w' (mapZ b N (mdel D x) :: R) := by
  obtain ⟨es, clock, F, h⟩ := mapZ_open H
  have hb := h.get
  rcases run_findZ (P := P) (w := w) hk x es (fun y hy => by obtain ⟨k, hk, _⟩ := F.each y hy; exact ⟨k, hk⟩) with ⟨h1, h2⟩ | ⟨j, y, h1, h2, h3⟩
  · refine ⟨ChangeMaps.setBlock w b (.map es clock), ?_, mapZ_close ⟨F.stamped, ?_, ?_⟩ (setBlock_holds h)⟩
    · simp [Builtin.delete_, run_underlying ht, MapKept.run_getObj_map hb, checkZ hk, h1, MapKept.run_setObj_map _ hb, Result.andThen, ChangeMaps.setBlock]
    · intro y hy
      obtain ⟨k, k1, k2, k3, k4⟩ := F.each y hy
      exact ⟨k, k1, k2, k3, by rw [mdel, if_neg (by rintro rfl; exact h2 y hy k1)]; exact k4⟩
    · intro k u hku
      unfold mdel at hku
      split at hku
      · cases hku
      · exact F.cover k u hku
  · have hj : j < es.size := by simpa using (List.getElem?_eq_some_iff.1 h2).1
    have hsub : (es.eraseIdxIfInBounds j).toList = es.toList.eraseIdx j := by
      unfold Array.eraseIdxIfInBounds
      rw [dif_pos hj]
      simp
    have hpw := List.pairwise_iff_getElem.1 (List.pairwise_map.1 F.stamped.2.2)
    obtain ⟨hj1, hj2⟩ := List.getElem?_eq_some_iff.1 h2
    have other : ∀ (i : Nat) (z : MapEntry), es.toList[i]? = some z → i ≠ j → z.key ≠ .int .i64 x := by
      intro i z hi hij hzk
      obtain ⟨hi1, hi2⟩ := List.getElem?_eq_some_iff.1 hi
      have e1 : z.key = y.key := hzk.trans h3.symm
      rcases Nat.lt_or_gt_of_ne hij with hl | hl
      · exact hpw i j hi1 hj1 hl (by rw [hi2, hj2]; exact e1)
      · exact hpw j i hj1 hi1 hl (by rw [hi2, hj2]; exact e1.symm)
    refine ⟨ChangeMaps.setBlock w b (.map (es.eraseIdxIfInBounds j) clock), ?_, mapZ_close ⟨MapKept.stamped_erase F.stamped j, ?_, ?_⟩ (setBlock_holds h)⟩
    · simp [Builtin.delete_, run_underlying ht, MapKept.run_getObj_map hb, checkZ hk, h1, MapKept.run_setObj_map _ hb, Result.andThen, ChangeMaps.setBlock]
    · intro z hz
      rw [hsub, List.mem_eraseIdx_iff_getElem?] at hz
      obtain ⟨i, hij, hi⟩ := hz
      obtain ⟨k, k1, k2, k3, k4⟩ := F.each z (List.mem_of_getElem? hi)
      exact ⟨k, k1, k2, k3, by rw [mdel, if_neg (by rintro rfl; exact other i z hi hij k1)]; exact k4⟩
    · intro k u hku
      unfold mdel at hku
      split at hku
      · cases hku
      · next hkx =>
        obtain ⟨z, hz, hzk⟩ := F.cover k u hku
        obtain ⟨i, hi⟩ := List.mem_iff_getElem?.1 hz
        refine ⟨z, ?_, hzk⟩
        rw [hsub, List.mem_eraseIdx_iff_getElem?]
        refine ⟨i, ?_, hi⟩
        rintro rfl
        rw [h2] at hi
        cases hi
        rw [h3] at hzk
        cases hzk
        exact hkx rfl

theorem mapZ_made (H : Holds e w R) (N : Nat) : Holds e (w.alloc (.map #[] 0)) (mapZ w.heap.size N (fun _ => none) :: R) :=
  mapZ_close ⟨MapKept.stamped_empty 0, by simp, by simp⟩ (H.alloc _)

/-- For the library's contracts on a map's keys. -/
theorem mapZ_owns (H : Holds e w (mapZ b N D :: R)) (hk : P.underlying kt = some (.int .i64)) (hN : N ≤ 4611686018427387904) :
    ∃ D0 : DataW Unit, w.ownsMap P kt (fun _ => some (.nil, [])) b N D0 ∧ Maps.size D0 ≤ N ∧ ∀ ss : List Int, ss.Perm (intKeys D0) → ss.Nodup ∧ ∀ x, x ∈ ss ↔ (D x).isSome = true := by
  obtain ⟨es, clock, F, h⟩ := mapZ_open H
  have hsz := F.size
  have hmx : N ≤ maxLen := by unfold maxLen; omega
  have rdz : ∀ x ∈ es.toList, ∃ k : Int, x.key = .int .i64 k ∧ WideElems.rd (H := Unit) P kt (fun _ => some (.nil, [])) x = some (.int .i64 k, .nil) := fun x hx => by
    obtain ⟨k, k1, k2, k3, _⟩ := F.each x hx
    refine ⟨k, k1, ?_⟩
    have hw : (Lit.int .i64 k).wf = true := WalkArith.wf_i64 (by omega)
    unfold WideElems.rd
    rw [k1, Maps.keyOf_int_mk hk hw]
    rfl
  refine ⟨_, ⟨es, clock, h.get, ⟨by omega, F.stamped, fun x hx => let ⟨k, _, h⟩ := rdz x hx; ⟨_, h⟩⟩, hsz, rfl⟩, ?_, ?_⟩
  · show List.length _ ≤ N
    rw [length_sorted]
    simpa using hsz
  · intro ss hss
    have hp : (intKeys (DataW.map ((es.toList.map (WideElems.rg (H := Unit) P kt (fun _ => some (.nil, [])))).foldr DataW.insert []))).Perm (es.toList.map fun x => Go.intOf (WideElems.rg (H := Unit) P kt (fun _ => some (.nil, [])) x).1) := by
      have := (WideShapes.sorted_perm (es.toList.map (WideElems.rg (H := Unit) P kt (fun _ => some (.nil, []))))).map fun p => Go.intOf p.1
      simpa [intKeys, List.map_map, Function.comp_def] using this
    have hq := hss.trans hp
    have hrg : ∀ x ∈ es.toList, ∃ k : Int, x.key = .int .i64 k ∧ Go.intOf (WideElems.rg (H := Unit) P kt (fun _ => some (.nil, [])) x).1 = k := fun x hx => by
      obtain ⟨k, k1, k2⟩ := rdz x hx
      exact ⟨k, k1, by rw [WideElems.rg_of k2]; rfl⟩
    constructor
    · refine hq.nodup_iff.2 (List.pairwise_map.2 ((List.pairwise_map.1 F.stamped.2.2).imp_of_mem fun {x y} hx hy hne he => hne ?_))
      obtain ⟨k, hk1, hk2⟩ := hrg x hx
      obtain ⟨j, hj1, hj2⟩ := hrg y hy
      rw [hk2, hj2] at he
      rw [hk1, hj1, he]
    · intro x
      rw [hq.mem_iff, List.mem_map]
      constructor
      · rintro ⟨y, hy, rfl⟩
        obtain ⟨k, hk1, hk2⟩ := hrg y hy
        obtain ⟨j, hj1, _, _, hj2⟩ := F.each y hy
        have : j = k := by rw [hk1] at hj1; cases hj1; rfl
        subst this
        rw [hk2, hj2]; rfl
      · intro hd
        obtain ⟨v, hv⟩ := Option.isSome_iff_exists.1 hd
        obtain ⟨y, hy, hyk⟩ := F.cover x v hv
        obtain ⟨k, hk1, hk2⟩ := hrg y hy
        have : k = x := by rw [hk1] at hyk; cases hyk; rfl
        exact ⟨y, hy, by rw [hk2, this]⟩
end
end Go.Proofs.YtjbphdjheklhbaaGreat

/-
  Package model: pages of a flat memory; may.
-/
namespace Go.Proofs.YtjbphdjheklhbaaGreat
open Go.RowKit

/-- A page: its number, perm, bytes, and the blocks in which it lies. -/
structure Pg where
  pg : Nat
  perm : Nat
  bs : List UInt8
  pb : Nat
  gb : Nat
def Pg.ptr (x : Pg) : Value := .pointer (some ⟨x.pb, 0, none⟩)
def fnd (M : List Pg) (k : Nat) : Option Pg := M.find? fun x => x.pg == k
def look (M : List Pg) (k : Int) : Option Value := if 0 ≤ k then (fnd M k.toNat).map Pg.ptr else none
structure ModOk (M : List Pg) : Prop where
  rise : M.Pairwise (fun x y => x.pg < y.pg)
  lt : ∀ x ∈ M, x.pg < 68719476736
  perm : ∀ x ∈ M, x.perm ≤ 7
  len : ∀ x ∈ M, x.bs.length = 4096
def pgObj (x : Pg) : Obj := .cells #[.int .i64 x.perm, .slice (some ⟨x.gb, 0, none⟩) 4096 4096] 108 (0, 0)
def bsObj (x : Pg) : Obj := .cells (u8v x.bs).toArray 5 (0, 0)
def pageH (x : Pg) : HP := grp [pts x.pb (pgObj x), pts x.gb (bsObj x)]
def modObj (mb : Nat) : Obj := .cells #[.map (some mb)] 80 (0, 0)
/-- The model in block m: its pages. -/
def modH (m : Nat) (M : List Pg) : HP := exh fun mb : Nat => grp [pur (ModOk M), pts m (modObj mb), mapZ mb 68719476736 (look M), all pageH M]

theorem fnd_at {M : List Pg} {k : Nat} {x : Pg} (h : fnd M k = some x) : ∃ i : Nat, M[i]? = some x ∧ x.pg = k := by
  have h1 := List.mem_of_find?_eq_some h
  have h2 := List.find?_some h
  obtain ⟨i, hi⟩ := List.mem_iff_getElem?.1 h1
  exact ⟨i, hi, by simpa using h2⟩
theorem look_nat (M : List Pg) (k : Nat) : look M (k : Int) = (fnd M k).map Pg.ptr := by
  unfold look; rw [if_pos (by omega), Int.toNat_natCast]

section
variable {e : Env} {w : World} {R : List HP} {m : Nat} {M : List Pg}
theorem mod_open (H : Holds e w (modH m M :: R)) : ∃ mb, ModOk M ∧ Holds e w (pts m (modObj mb) :: mapZ mb 68719476736 (look M) :: all pageH M :: R) := by
  obtain ⟨mb, h⟩ := Holds.exE H
  have h2 := h.ungrp
  exact ⟨mb, h2.purE, h2.drop⟩
theorem mod_close {mb : Nat} (hO : ModOk M) (H : Holds e w (pts m (modObj mb) :: mapZ mb 68719476736 (look M) :: all pageH M :: R)) : Holds e w (modH m M :: R) :=
  Holds.mkExh mb (Holds.mkGrp (L := [pur _, pts _ _, mapZ _ _ _, all _ _]) (Holds.mkPur hO H))
/-- The model without the page at place i. -/
def modX (m mb : Nat) (M : List Pg) (i : Nat) (R : List HP) : List HP := pts m (modObj mb) :: mapZ mb 68719476736 (look M) :: all pageH (M.eraseIdx i) :: R
theorem mod_at {i mb : Nat} {x : Pg} (hi : M[i]? = some x) (H : Holds e w (pts m (modObj mb) :: mapZ mb 68719476736 (look M) :: all pageH M :: R)) : Holds e w (pts x.pb (pgObj x) :: pts x.gb (bsObj x) :: modX m mb M i R) := by
  have h1 := (Holds.focus hi H.p2)
  have h2 := Holds.ungrp (L := [pts _ _, pts _ _]) h1
  exact h2.cons fun _ => Sat.cons fun _ s => Sat.q2 (X := all pageH (M.eraseIdx i)) s
theorem mod_back {i mb : Nat} {x : Pg} (hi : M[i]? = some x) (H : Holds e w (pts x.pb (pgObj x) :: pts x.gb (bsObj x) :: modX m mb M i R)) : Holds e w (pts m (modObj mb) :: mapZ mb 68719476736 (look M) :: all pageH M :: R) := by
  have h1 : Holds e w (grp [pts x.pb (pgObj x), pts x.gb (bsObj x)] :: modX m mb M i R) := Holds.mkGrp (L := [pts _ _, pts _ _]) H
  have h2 := h1.cons fun _ s => Take.there _ (Take.there _ (Take.here _ _)) _ s
  exact (Holds.unfocus' hi h2).q2

/-- Why byte j may not be used so. -/
def chkAt (M : List Pg) (a u j : Nat) : Nat :=
  if 18446744073709551616 ≤ a + j then 8 else if canon (a + j) = false then 8 else
    match fnd M (pgOf (a + j)) with
    | none => 9
    | some x => if x.perm / u % 2 = 0 then 10 else 0
def chkL (M : List Pg) (a u : Nat) (l : List Nat) : Nat := ((l.find? fun j => chkAt M a u j != 0).map (chkAt M a u)).getD 0
def chk (M : List Pg) (a : Nat) (n : Int) (u : Nat) : Nat := if n < 1 ∨ 64 < n then 1 else chkL M a u (List.range n.toNat)
theorem chkL_stop {M : List Pg} {a u n k : Nat} (hk : k < n) (h0 : ∀ j, j < k → chkAt M a u j = 0) (h : chkAt M a u k ≠ 0) : chkL M a u (List.range n) = chkAt M a u k := by
  unfold chkL
  have : (List.range n).find? (fun j => chkAt M a u j != 0) = some k := by
    rw [List.find?_eq_some_iff_getElem]
    refine ⟨by simpa using h, k, by simpa using hk, by simp, fun j hj => ?_⟩
    simp [h0 j hj]
  rw [this]; rfl
theorem chkL_zero {M : List Pg} {a u n : Nat} : chkL M a u (List.range n) = 0 ↔ ∀ j, j < n → chkAt M a u j = 0 := by
  constructor
  · intro h
    induction n with
    | zero => intro j hj; omega
    | succ n ih =>
      by_cases hall : ∀ j, j < n + 1 → chkAt M a u j = 0
      · exact hall
      · exfalso
        have : ∃ k, k < n + 1 ∧ chkAt M a u k ≠ 0 ∧ ∀ j, j < k → chkAt M a u j = 0 := by
          apply Classical.byContradiction
          intro hno
          apply hall
          intro j
          induction j using Nat.strongRecOn with
          | ind j ihj =>
            intro hj
            apply Classical.byContradiction
            intro hne
            exact hno ⟨j, hj, hne, fun i hi => ihj i hi (by omega)⟩
        obtain ⟨k, hk, hne, hz⟩ := this
        rw [chkL_stop hk hz hne] at h
        exact hne h
  · intro h
    unfold chkL
    have : (List.range n).find? (fun j => chkAt M a u j != 0) = none := by
      rw [List.find?_eq_none]
      intro j hj
      simp [h j (List.mem_range.1 hj)]
    rw [this]; rfl

theorem and_use {p u : Nat} (hp : p ≤ 7) (hu : u = 1 ∨ u = 2 ∨ u = 4) : (bits BinOp.and IntKind.i64 (p : Int) (u : Int) == 0) = decide (p / u % 2 = 0) := by
  rcases hu with rfl | rfl | rfl
  all_goals
    match p, hp with
    | 0, _ => rfl
    | 1, _ => rfl
    | 2, _ => rfl
    | 3, _ => rfl
    | 4, _ => rfl
    | 5, _ => rfl
    | 6, _ => rfl
    | 7, _ => rfl
    | n + 8, h => omega

set_option maxRecDepth 100000 in
set_option maxHeartbeats 1000000 in
theorem modMay (H : Holds e w (modH m M :: R)) (a : Nat) (ha : a < 18446744073709551616) (n : Int) (hn0 : -9223372036854775808 ≤ n) (hn1 : n ≤ 9223372036854775807) (u : Nat) (hu : u = 1 ∨ u = 2 ∨ u = 4) :
    Calls Tryz.prog 74 #[.pointer (some ⟨m, 0, none⟩), .int .u64 a, .int .i64 n, .int .i64 u] w (Ret e (.int .i64 (chk M a n u)) (modH m M :: R)) := by
  by_cases hn : n < 1 ∨ 64 < n
  · have e1 : chk M a n u = 1 := by unfold chk; rw [if_pos hn]
    rw [e1]
    have HH := Lib.hid H
    clear e1
    rcases hn with hn | hn
    · clear H
      go_enter Tryz.func74, Tryz.ntmps74
      go_wp2_with fail
      go_ret
      exact ⟨rfl, HH.out⟩
    · have hn' : 1 ≤ n := by omega
      clear H
      go_enter Tryz.func74, Tryz.ntmps74
      go_wp2_with fail
      go_ret
      exact ⟨rfl, HH.out⟩
  · obtain ⟨N, rfl⟩ : ∃ N : Nat, n = N := ⟨n.toNat, by omega⟩
    have hN : 1 ≤ N ∧ N ≤ 64 := by omega
    have e1 : chk M a N u = chkL M a u (List.range N) := by unfold chk; rw [if_neg hn, Int.toNat_natCast]
    rw [e1]
    clear e1 hn hn0 hn1
    obtain ⟨hN1, hN2⟩ := hN
    have CC := Lib.hid fun (b : Nat) (hb : b < 18446744073709551616) (w' : World) => vaCanon (w := w') b hb
    have CP := Lib.hid fun (b : Nat) (hb : b < 18446744073709551616) (w' : World) => vaPage (w := w') b hb
    go_enter Tryz.func74, Tryz.ntmps74
    go_wp2_with fail
    go_loopw [20] (fun i wr => ∃ k : Nat, k ≤ N ∧ i = .int .i64 (k : Nat) ∧ Hid (∀ j, j < k → chkAt M a u j = 0) ∧ Holds e wr (modH m M :: R)) (fun i _ => N - (Go.RowKit.intOf i).toNat)
    case atStart => exact ⟨0, by omega, rfl, Lib.hid (fun j hj => by omega), H⟩
    case round =>
      obtain ⟨k, hk, rfl, hz, HX⟩ := hrel
      by_cases hlt : k < N
      · by_cases hov : 18446744073709551616 ≤ a + k
        · have hw : decide (IntKind.u64.wrap ((a : Int) + (k : Int)) < (a : Int)) = true := by rw [IntKind.wrap_u64]; simp; omega
          have HC : Hid (chkL M a u (List.range N) = 8) := Lib.hid (by
            have h8 : chkAt M a u k = 8 := by unfold chkAt; rw [if_pos hov]
            rw [chkL_stop hlt hz.out (by rw [h8]; decide), h8])
          clear hov hz
          go_wp2_with fail
          go_ret
          exact ⟨by rw [HC.out]; rfl, HX⟩
        · obtain ⟨b, hb⟩ : ∃ b, a + k = b := ⟨_, rfl⟩
          have hb64 : b < 18446744073709551616 := by omega
          have hab : (a : Int) + (k : Int) = (b : Int) := by omega
          have hw : decide ((b : Int) < (a : Int)) = false := by simp; omega
          have CCb := fun w' => CC.out b hb64 w'
          by_cases hcan : canon b = true
          · have HCA : Hid (chkAt M a u k = match fnd M (pgOf b) with | none => 9 | some x => if x.perm / u % 2 = 0 then 10 else 0) := Lib.hid (by
              unfold chkAt; rw [if_neg hov, hb, if_neg (by rw [hcan]; decide)])
            rw [hcan] at CCb
            obtain ⟨mb, hO, HY⟩ := mod_open HX
            have CPb := Lib.hid fun w' => CP.out b hb64 w'
            have hpl := pgOf_lt b
            obtain ⟨q, hq⟩ : ∃ q, pgOf b = q := ⟨_, rfl⟩
            rw [hq] at HCA CPb hpl
            clear hov hcan hq hb
            have hzv : ∀ w, (zeroValue 105).run Tryz.prog w = .ok (.pointer none) w := fun w => by kernel_rfl
            -- the page, or none
            rcases hf : fnd M q with _ | x
            · rw [hf] at HCA
              have h9 : chkAt M a u k = 9 := HCA.out
              have HC : Hid (chkL M a u (List.range N) = 9) := Lib.hid (by
                rw [chkL_stop hlt hz.out (by rw [h9]; decide), h9])
              have HL : Hid (∀ w', Holds e w' (pts m (modObj mb) :: mapZ mb 68719476736 (look M) :: all pageH M :: R) → (Instr.lookup 78 (.map (some mb)) (.int .i64 q) true).run Tryz.prog w' = .ok (.tuple #[.pointer none, .bool false]) w') := Lib.hid fun w' h => by
                have := mapZ_lookup (P := Tryz.prog) (t := 78) (kt := 3) (et := 105) h.swap (by kernel_rfl) (by kernel_rfl) (hzv w') true (q : Int)
                rw [look_nat, hf] at this
                exact this
              clear hz HCA h9
              go_wp2_with fail
              refine (CCb _).mono ?_
              rintro en w1 ⟨rfl, n1, rfl⟩
              have HY1 := HY.drewN n1
              go_wp2_with fail
              obtain ⟨I, Wf, hI, hW, hWs⟩ := worlds_of HY1
              have r0 : ∀ i, (Wf i).cell? ⟨m, 0, none⟩ = some (.map (some mb)) := fun i => (hW i).cells 0
              have r1 := fun i => HL.out _ (hW i)
              refine wp_region_holds hWs HY1 (by kernel_rfl) (by kernel_rfl) ?_
              (repeat (go_big_quiet_step ((go_at_call 70; exact quietQ (CPb.out _) (hW _) hWs)))); refine wpQuiet_nil ?_; intro _ hw'; obtain ⟨nq, hw''⟩ := hw'; subst hw''
              go_wp2_with fail
              go_ret
              exact ⟨by rw [HC.out]; rfl, mod_close hO (hW nq)⟩
            · rw [hf] at HCA
              obtain ⟨ix, hix, hxq⟩ := fnd_at hf
              have hp7 := hO.perm x (List.mem_of_getElem? hix)
              have hau := and_use hp7 hu
              have HL : Hid (∀ w', Holds e w' (pts m (modObj mb) :: mapZ mb 68719476736 (look M) :: all pageH M :: R) → (Instr.lookup 78 (.map (some mb)) (.int .i64 q) true).run Tryz.prog w' = .ok (.tuple #[.pointer (some ⟨x.pb, 0, none⟩), .bool true]) w') := Lib.hid fun w' h => by
                have := mapZ_lookup (P := Tryz.prog) (t := 78) (kt := 3) (et := 105) h.swap (by kernel_rfl) (by kernel_rfl) (hzv w') true (q : Int)
                rw [look_nat, hf] at this
                exact this
              have h10 : chkAt M a u k = if x.perm / u % 2 = 0 then 10 else 0 := HCA.out
              clear HCA
              go_wp2_with fail
              refine (CCb _).mono ?_
              rintro en w1 ⟨rfl, n1, rfl⟩
              have HY1 := HY.drewN n1
              go_wp2_with fail
              obtain ⟨I, Wf, hI, hW, hWs⟩ := worlds_of HY1
              have r0 : ∀ i, (Wf i).cell? ⟨m, 0, none⟩ = some (.map (some mb)) := fun i => (hW i).cells 0
              have r1 := fun i => HL.out _ (hW i)
              refine wp_region_holds hWs HY1 (by kernel_rfl) (by kernel_rfl) ?_
              (repeat (go_big_quiet_step ((go_at_call 70; exact quietQ (CPb.out _) (hW _) hWs)))); refine wpQuiet_nil ?_; intro _ hw'; obtain ⟨nq, hw''⟩ := hw'; subst hw''
              have HP := mod_at hix (hW nq)
              have hp0 : (Wf nq).cell? ⟨x.pb, 0, none⟩ = some (.int .i64 x.perm) := HP.cells 0
              obtain ⟨pe, hpe⟩ : ∃ pe, bits BinOp.and IntKind.i64 (x.perm : Int) (u : Int) = pe := ⟨_, rfl⟩
              rw [hpe] at hau
              have HQ := Lib.hid (mod_close hO (hW nq))
              clear HP hW hWs HY1 HY HX hzv
              by_cases hbit : x.perm / u % 2 = 0
              · rw [decide_eq_true hbit] at hau
                rw [if_pos hbit] at h10
                have HC : Hid (chkL M a u (List.range N) = 10) := Lib.hid (by
                  rw [chkL_stop hlt hz.out (by rw [h10]; decide), h10])
                clear hz h10 hbit
                go_wp2_with fail
                go_ret
                exact ⟨by rw [HC.out]; rfl, HQ.out⟩
              · rw [decide_eq_false hbit] at hau
                rw [if_neg hbit] at h10
                have HZ : Hid (∀ j, j < k + 1 → chkAt M a u j = 0) := Lib.hid fun j hj => by
                  rcases Nat.lt_succ_iff_lt_or_eq.1 hj with hj | rfl
                  · exact hz.out j hj
                  · exact h10
                clear hz h10 hbit
                go_wp2_with fail
                go_roundw
                case rel => exact ⟨k + 1, by omega, by go_num, HZ, HQ.out⟩
                case measure => simp [Go.RowKit.intOf]; omega
          · have HC : Hid (chkL M a u (List.range N) = 8) := Lib.hid (by
              have h8 : chkAt M a u k = 8 := by unfold chkAt; rw [if_neg hov, hb, if_pos (by simpa using hcan)]
              rw [chkL_stop hlt hz.out (by rw [h8]; decide), h8])
            rw [show canon b = false by simpa using hcan] at CCb
            clear hov hz hcan hb
            go_wp2_with fail
            refine (CCb _).mono ?_
            rintro en w1 ⟨rfl, n1, rfl⟩
            have HX1 := HX.drewN n1
            clear HX
            go_wp2_with fail
            go_ret
            exact ⟨by rw [HC.out]; rfl, HX1⟩
      · obtain rfl : k = N := by omega
        have HZ : Hid (chkL M a u (List.range k) = 0) := Lib.hid (chkL_zero.2 hz.out)
        clear hz
        go_wp2_with fail
        go_ret
        exact ⟨by rw [HZ.out]; rfl, HX⟩
end
end Go.Proofs.YtjbphdjheklhbaaGreat

/-
  Assertions in another order, by the numbers of their places.
-/
namespace Go.Proofs.YtjbphdjheklhbaaGreat
open Go.RowKit

theorem Sat.perm {A B : List HP} (p : A.Perm B) : ∀ {h : PH}, Sat A h → Sat B h := by
  induction p with
  | nil => exact fun s => s
  | cons x _ ih => exact fun s => Sat.cons (fun _ s => ih s) s
  | swap x y l => exact fun s => Take.there _ (Take.here _ _) _ s
  | trans _ _ ih1 ih2 => exact fun s => ih2 (ih1 s)
theorem Sat.dropL {R : List HP} : ∀ (D : List HP) {h : PH}, Sat (D ++ R) h → Sat R h
  | [], _, s => s
  | _ :: D, _, s => Sat.dropL D s.drop

theorem map_getD_range {α : Type} (d : α) : ∀ (l : List α), (List.range l.length).map (fun i => l.getD i d) = l := by
  intro l
  apply List.ext_getElem
  · simp
  · intro i h1 h2
    simp [List.getD, List.getElem?_eq_getElem h2]

theorem range_split {idx : List Nat} {n : Nat} (hn : idx.Nodup) (hl : ∀ i ∈ idx, i < n) : (List.range n).Perm ((List.range n).filter (fun i => i ∉ idx) ++ idx) := by
  apply (List.perm_ext_iff_of_nodup List.nodup_range ?_).2
  · intro a
    simp only [List.mem_append, List.mem_filter, List.mem_range, decide_eq_true_eq]
    constructor
    · intro h
      by_cases ha : a ∈ idx
      · exact .inr ha
      · exact .inl ⟨h, ha⟩
    · rintro (h | h)
      · exact h.1
      · exact hl a h
  · refine List.nodup_append.2 ⟨List.Pairwise.filter _ List.nodup_range, hn, ?_⟩
    intro a ha b hb
    rintro rfl
    simp at ha
    exact ha.2 hb

/-- The assertions at these places, in this order; others among the first n are dropped. -/
theorem Holds.re {e : Env} {w : World} {A : List HP} (n : Nat) (idx : List Nat) (h : Holds e w A) (hn : idx.Nodup := by decide) (hl : ∀ i ∈ idx, i < n := by decide) :
    Holds e w (idx.map (fun i => A.getD i (pur True)) ++ A.drop n) := by
  refine h.imp fun g s => ?_
  have h1 : Sat ((List.range n).map (fun i => A.getD i (pur True)) ++ A.drop n) g := by
    by_cases hA : n ≤ A.length
    · have e1 : (List.range n).map (fun i => A.getD i (pur True)) = A.take n := by
        have := map_getD_range (pur True) (A.take n)
        rw [List.length_take, Nat.min_eq_left hA] at this
        rw [← this]
        apply List.map_congr_left
        intro i hi
        rw [List.mem_range] at hi
        simp [List.getD, hi]
      rw [e1, List.take_append_drop]
      exact s
    · have e2 : A.drop n = [] := List.drop_eq_nil_of_le (by omega)
      have e1 : (List.range n).map (fun i => A.getD i (pur True)) = A ++ List.replicate (n - A.length) (pur True) := by
        apply List.ext_getElem
        · simp; omega
        · intro i h1 h2
          simp only [List.getElem_map, List.getElem_range, List.getElem_append, List.getElem_replicate]
          split
          · next hi => simp [List.getD, List.getElem?_eq_getElem hi]
          · next hi => simp [List.getD, List.getElem?_eq_none (Nat.le_of_not_lt hi)]
      rw [e1, e2, List.append_nil]
      refine Sat.perm List.perm_append_comm ?_
      generalize n - A.length = k
      induction k with
      | zero => exact s
      | succ k ih => exact ⟨fun _ => none, g, fun b => .inl rfl, fun b o x => (by cases x), fun b o x => x, trivial, ih⟩
  have h2 := Sat.perm ((range_split hn hl).map (fun i => A.getD i (pur True)) |>.append_right (A.drop n)) h1
  rw [List.map_append, List.append_assoc] at h2
  exact Sat.dropL _ h2
end Go.Proofs.YtjbphdjheklhbaaGreat

/-
  Package model: reading bytes.
-/
namespace Go.Proofs.YtjbphdjheklhbaaGreat
open Go.RowKit

def byteOf (M : List Pg) (b : Nat) : UInt8 := match fnd M (pgOf b) with | some x => x.bs.getD (offOf b) 0 | none => 0
def rdb (M : List Pg) (a n : Nat) : List UInt8 := (List.range n).map fun j => byteOf M (a + j)
theorem rdb_length (M : List Pg) (a n : Nat) : (rdb M a n).length = n := by simp [rdb]
theorem rdb_succ (M : List Pg) (a n : Nat) : rdb M a (n + 1) = rdb M a n ++ [byteOf M (a + n)] := by simp [rdb, List.range_succ]
/-- Bytes lie where they may be used. -/
def There (M : List Pg) (a n : Nat) : Prop := ∀ j, j < n → a + j < 18446744073709551616 ∧ (fnd M (pgOf (a + j))).isSome = true
theorem there_of_chk {M : List Pg} {a u n : Nat} (h : chkL M a u (List.range n) = 0) : There M a n := by
  intro j hj
  have h1 := chkL_zero.1 h j hj
  unfold chkAt at h1
  split at h1
  · cases h1
  split at h1
  · cases h1
  split at h1
  · cases h1
  · next h2 => exact ⟨by omega, by rw [h2]; rfl⟩

section
variable {e : Env} {w : World} {R : List HP} {m : Nat} {M : List Pg}
def outCell (ob n : Nat) : Obj := .cells #[.slice (some ⟨ob, 0, none⟩) n n] 23 (0, 0)
def outObj (us : List UInt8) : Obj := .cells (u8v us).toArray 5 (0, 0)
theorem u8A_get {l : List UInt8} {i : Nat} (h : i < l.length) : (u8v l).toArray[i]? = some (.int .u8 ((l.getD i 0).toNat : Int)) := by
  simp [u8v, List.getD, List.getElem?_eq_getElem h]
theorem u8_set (l : List UInt8) (i : Nat) (v : UInt8) : (u8v l).toArray.setIfInBounds i (.int .u8 (v.toNat : Int)) = (u8v (l.set i v)).toArray := by
  simp [u8v, List.map_set]
set_option maxRecDepth 100000 in
set_option maxHeartbeats 1000000 in
theorem rdClo {bo ob n gb k off : Nat} {us bs : List UInt8} (H : Holds e w (pts bo (outCell ob n) :: pts ob (outObj us) :: pts gb (.cells (u8v bs).toArray 5 (0, 0)) :: R)) (hk : k < n) (_hn : n ≤ 64) (hus : us.length = n) (ho : off < bs.length) (_hb : bs.length ≤ 4096) :
    Calls Tryz.prog 76 #[.int .i64 k, .pointer (some ⟨gb, off, none⟩), .pointer (some ⟨bo, 0, none⟩)] w
      (Ret e (.tuple #[]) (pts bo (outCell ob n) :: pts ob (outObj (us.set k (bs.getD off 0))) :: pts gb (.cells (u8v bs).toArray 5 (0, 0)) :: R)) := by
  have c0 : w.cell? ⟨bo, 0, none⟩ = some (.slice (some ⟨ob, 0, none⟩) n n) := H.cells 0
  have c1 : w.cell? ⟨gb, off, none⟩ = some (.int .u8 ((bs.getD off 0).toNat : Int)) := (H.p2.cells off).trans (u8A_get ho)
  have c2 : ∃ v, w.cell? ⟨ob, k, none⟩ = some v := ⟨_, (H.swap.cells k).trans (u8A_get (by omega))⟩
  obtain ⟨v2, c2⟩ := c2
  have f2 := H.swap.frozen
  have hv := (bs.getD off 0).toNat_lt
  have H1 := (H.swap.set k (.int .u8 ((bs.getD off 0).toNat : Int)))
  rw [u8_set] at H1
  generalize bs.getD off 0 = v at *
  have HH := Lib.hid H1.swap
  clear H H1
  go_enter Tryz.func76, Tryz.ntmps76
  go_wp2_with fail
  go_region
  go_end0
  exact ⟨rfl, HH.out.drew⟩

/-- A page in hand: what each reads of it. -/
def eachS (m mb : Nat) (q : Nat) (x : Pg) (w : World) : Prop :=
  w.cell? ⟨m, 0, none⟩ = some (.map (some mb)) ∧ (Instr.lookup 78 (.map (some mb)) (.int .i64 q) false).run Tryz.prog w = .ok (.pointer (some ⟨x.pb, 0, none⟩)) w ∧ w.cell? ⟨x.pb, 1, none⟩ = some (.slice (some ⟨x.gb, 0, none⟩) 4096 4096)
theorem eachS_of {mb q ix : Nat} {x : Pg} (hf : fnd M q = some x) (hix : M[ix]? = some x) (H : Holds e w (pts m (modObj mb) :: mapZ mb 68719476736 (look M) :: all pageH M :: R)) : eachS m mb q x w := by
  have hzv : ∀ w, (zeroValue 105).run Tryz.prog w = .ok (.pointer none) w := fun w => by kernel_rfl
  refine ⟨H.cells 0, ?_, (mod_at hix H).cells 1⟩
  have := mapZ_lookup (P := Tryz.prog) (t := 78) (kt := 3) (et := 105) H.swap (by kernel_rfl) (by kernel_rfl) (hzv w) false (q : Int)
  rw [look_nat, hf] at this
  exact this

set_option maxRecDepth 100000 in
set_option maxHeartbeats 4000000 in
theorem eachRead {bo ob n : Nat} (hn : n ≤ 64) (a : Nat) (hT : There M a n) (us : List UInt8) (hus : us.length = n)
    (H : Holds e w (modH m M :: pts bo (outCell ob n) :: pts ob (outObj us) :: R)) :
    Calls Tryz.prog 75 #[.pointer (some ⟨m, 0, none⟩), .int .u64 a, .int .i64 n, .func (.func 76) #[] #[.pointer (some ⟨bo, 0, none⟩)]] w
      (Ret e (.tuple #[]) (modH m M :: pts bo (outCell ob n) :: pts ob (outObj (rdb M a n)) :: R)) := by
  have CP := Lib.hid fun (b : Nat) (hb : b < 18446744073709551616) (w' : World) => vaPage (w := w') b hb
  have CO := Lib.hid fun (b : Nat) (hb : b < 18446744073709551616) (w' : World) => vaOffset (w := w') b hb
  go_enter Tryz.func75, Tryz.ntmps75
  go_wp2_with fail
  go_loopw [11] (fun i wr => ∃ (k : Nat) (ys : List UInt8), k ≤ n ∧ i = .int .i64 (k : Nat) ∧ ys.length = n ∧ Hid (ys.take k = rdb M a k) ∧ Holds e wr (modH m M :: pts bo (outCell ob n) :: pts ob (outObj ys) :: R)) (fun i _ => n - (Go.RowKit.intOf i).toNat)
  case atStart => exact ⟨0, us, by omega, rfl, hus, Lib.hid rfl, H⟩
  case round =>
    obtain ⟨k, ys, hk, rfl, hys, hz, HX⟩ := hrel
    by_cases hlt : k < n
    · obtain ⟨hb64, hsome⟩ := hT k hlt
      obtain ⟨x, hf⟩ := Option.isSome_iff_exists.1 hsome
      obtain ⟨b, hb⟩ : ∃ b, a + k = b := ⟨_, rfl⟩
      have HB : Hid (byteOf M (a + k) = x.bs.getD (offOf b) 0) := Lib.hid (by unfold byteOf; rw [hf, hb])
      rw [hb] at hb64 hf
      have hab : (a : Int) + (k : Int) = (b : Int) := by omega
      have hol := offOf_lt b
      obtain ⟨mb, hO, HY⟩ := mod_open HX
      obtain ⟨ix, hix, hxq⟩ := fnd_at hf
      have hxl := hO.len x (List.mem_of_getElem? hix)
      obtain ⟨q, hq⟩ : ∃ q, pgOf b = q := ⟨_, rfl⟩
      obtain ⟨o, ho⟩ : ∃ o, offOf b = o := ⟨_, rfl⟩
      have CPb : Hid (∀ w' X, Holds e w' X → Calls Tryz.prog 70 #[.int .u64 b] w' (Ret e (.int .i64 q) X)) := Lib.hid fun w' X h => retQ (hq ▸ CP.out b hb64 w') h
      have COb : Hid (∀ w' X, Holds e w' X → Calls Tryz.prog 85 #[.int .u64 b] w' (Ret e (.int .i64 o) X)) := Lib.hid fun w' X h => retQ (ho ▸ CO.out b hb64 w') h
      rw [ho] at hol HB
      rw [hq] at hf
      have HS : Hid (∀ w' X, Holds e w' (pts m (modObj mb) :: mapZ mb 68719476736 (look M) :: all pageH M :: X) → eachS m mb q x w') := Lib.hid fun w' X h => eachS_of hf hix h
      have HC : Hid (∀ w', Holds e w' (pts m (modObj mb) :: mapZ mb 68719476736 (look M) :: all pageH M :: pts bo (outCell ob n) :: pts ob (outObj ys) :: R) → Calls Tryz.prog 76 #[.int .i64 k, .pointer (some ⟨x.gb, o, none⟩), .pointer (some ⟨bo, 0, none⟩)] w'
          (Ret e (.tuple #[]) (pts m (modObj mb) :: mapZ mb 68719476736 (look M) :: all pageH M :: pts bo (outCell ob n) :: pts ob (outObj (ys.set k (x.bs.getD o 0))) :: R))) := Lib.hid fun w' h => by
        have h1 := mod_at (R := pts bo (outCell ob n) :: pts ob (outObj ys) :: R) hix h
        have h2 : Holds e w' (pts bo (outCell ob n) :: pts ob (outObj ys) :: pts x.gb (.cells (u8v x.bs).toArray 5 (0, 0)) :: pts x.pb (pgObj x) :: pts m (modObj mb) :: mapZ mb 68719476736 (look M) :: all pageH (M.eraseIdx ix) :: R) := by
          exact h1.re 7 [5, 6, 1, 0, 2, 3, 4]
        refine (rdClo h2 hlt hn hys (by omega) (by omega)).mono ?_
        rintro en w1 ⟨rfl, h4⟩
        have h5 : Holds e w1 (pts x.pb (pgObj x) :: pts x.gb (bsObj x) :: modX m mb M ix (pts bo (outCell ob n) :: pts ob (outObj (ys.set k (x.bs.getD o 0))) :: R)) := h4.re 7 [3, 2, 4, 5, 6, 0, 1]
        exact ⟨rfl, mod_back hix h5⟩
      have hoI : (o : Int) < 4096 := by omega
      have hoJ : (0 : Int) ≤ o := by omega
      have hd := HY.drew
      clear hb hq ho hf hsome
      go_wp2_with fail
      go_region_held3 (fun w' => w'.cell? ⟨m, 0, none⟩ = some (.map (some mb)) ∧ (Instr.lookup 78 (.map (some mb)) (.int .i64 q) false).run Tryz.prog w' = .ok (.pointer (some ⟨x.pb, 0, none⟩)) w' ∧ w'.cell? ⟨x.pb, 1, none⟩ = some (.slice (some ⟨x.gb, 0, none⟩) 4096 4096))
        (first | exact HS.out _ _ (by assumption))
        (first
          | (go_at_call 70; refine (CPb.out _ _ (by assumption)).mono ?_; rintro e w4 ⟨rfl, HN⟩)
          | (go_at_call 85; refine (COb.out _ _ (by assumption)).mono ?_; rintro e w4 ⟨rfl, HN⟩)
          | (go_at_call 76; refine (HC.out _ (by assumption)).mono ?_; rintro e w4 ⟨rfl, HN⟩))
      all_goals
        have HZ : Hid ((ys.set k (x.bs.getD o 0)).take (k + 1) = rdb M a (k + 1)) := Lib.hid (by
          rw [rdb_succ, HB.out, ← hz.out, List.take_add_one, List.take_set_of_le (by omega), List.getElem?_set_self (by omega)]
          rfl)
        have HM := mod_close hO HN
        clear HS HC CPb COb HN hd HY hz HB
        go_wp2_with fail
        go_roundw
        case rel => exact ⟨k + 1, _, by omega, by go_num, by simpa using hys, HZ, HM⟩
        case measure => simp [Go.RowKit.intOf]; omega
    · obtain rfl : k = n := by omega
      rw [List.take_of_length_le (by omega)] at hz
      go_wp2_with fail
      go_end0
      exact ⟨rfl, by rw [← hz.out]; exact HX⟩
end
end Go.Proofs.YtjbphdjheklhbaaGreat

/-
  Package model: storing bytes.
-/
namespace Go.Proofs.YtjbphdjheklhbaaGreat
open Go.RowKit

def Pg.put (x : Pg) (o : Nat) (v : UInt8) : Pg := { x with bs := x.bs.set o v }
def wrAt (M : List Pg) (b : Nat) (v : UInt8) : List Pg := M.map fun x => if x.pg = pgOf b then x.put (offOf b) v else x
def wrb (M : List Pg) (a : Nat) (l : List UInt8) : List Pg := l.zipIdx.foldl (fun M p => wrAt M (a + p.2) p.1) M
theorem wrb_snoc (M : List Pg) (a : Nat) (l : List UInt8) (v : UInt8) : wrb M a (l ++ [v]) = wrAt (wrb M a l) (a + l.length) v := by
  unfold wrb
  rw [List.zipIdx_append, List.foldl_append]
  simp
theorem put_pg (x : Pg) (o : Nat) (v : UInt8) : (x.put o v).pg = x.pg := rfl
theorem fnd_wrAt (M : List Pg) (b : Nat) (v : UInt8) (q : Nat) : fnd (wrAt M b v) q = (fnd M q).map fun x => if x.pg = pgOf b then x.put (offOf b) v else x := by
  unfold fnd wrAt
  rw [List.find?_map]
  congr 1
  congr 1
  funext x
  simp only [Function.comp]
  split <;> rfl
theorem look_wrAt (M : List Pg) (b : Nat) (v : UInt8) : look (wrAt M b v) = look M := by
  funext k
  unfold look
  rw [fnd_wrAt]
  split
  · rw [Option.map_map]
    congr 1
    funext x
    simp only [Function.comp]
    split <;> rfl
  · rfl
theorem ModOk.wrAt {M : List Pg} (h : ModOk M) (b : Nat) (v : UInt8) : ModOk (wrAt M b v) := by
  unfold Go.Proofs.YtjbphdjheklhbaaGreat.wrAt
  refine ⟨?_, ?_, ?_, ?_⟩
  · rw [List.pairwise_map]
    refine h.rise.imp ?_
    intro x y hxy
    repeat (first | exact hxy | split)
  all_goals
    intro x hx
    obtain ⟨y, hy, rfl⟩ := List.mem_map.1 hx
  · split
    · exact h.lt y hy
    · exact h.lt y hy
  · split
    · exact h.perm y hy
    · exact h.perm y hy
  · split
    · simpa [Pg.put] using h.len y hy
    · exact h.len y hy
theorem ModOk.uniq {M : List Pg} (h : ModOk M) {i j : Nat} {x y : Pg} (hi : M[i]? = some x) (hj : M[j]? = some y) (he : x.pg = y.pg) : i = j := by
  obtain ⟨hi1, hi2⟩ := List.getElem?_eq_some_iff.1 hi
  obtain ⟨hj1, hj2⟩ := List.getElem?_eq_some_iff.1 hj
  have := List.pairwise_iff_getElem.1 h.rise
  rcases Nat.lt_trichotomy i j with hl | hl | hl
  · have h1 := this i j hi1 hj1 hl
    rw [hi2, hj2] at h1; omega
  · exact hl
  · have h1 := this j i hj1 hi1 hl
    rw [hi2, hj2] at h1; omega
theorem ModOk.fndAt {M : List Pg} (h : ModOk M) {i : Nat} {x : Pg} (hi : M[i]? = some x) : fnd M x.pg = some x := by
  cases hf : fnd M x.pg with
  | none =>
    have h1 := List.find?_eq_none.1 hf x (List.mem_of_getElem? hi)
    simp at h1
  | some y =>
    obtain ⟨j, hj, hjp⟩ := fnd_at hf
    have := h.uniq hj hi hjp
    subst this
    rw [hi] at hj
    exact hj.symm ▸ rfl
/-- A page turned in place. -/
theorem map_one {M : List Pg} (h : ModOk M) {i : Nat} {x : Pg} (hi : M[i]? = some x) (f : Pg → Pg) : (M.map fun y => if y.pg = x.pg then f y else y) = M.set i (f x) := by
  apply List.ext_getElem?
  intro j
  rw [List.getElem?_map, List.getElem?_set]
  obtain ⟨hi1, hi2⟩ := List.getElem?_eq_some_iff.1 hi
  by_cases hij : i = j
  · subst hij
    rw [if_pos rfl, if_pos hi1, hi]
    simp
  · rw [if_neg hij]
    cases hj : M[j]? with
    | none => rfl
    | some y =>
      have : y.pg ≠ x.pg := fun he => hij (h.uniq hi hj he.symm)
      simp [this]

section
variable {e : Env} {w : World} {R : List HP} {m : Nat} {M : List Pg}
/-- The model with a page that was turned in hand. -/
theorem mod_turn {i mb : Nat} {x x' : Pg} (hi : M[i]? = some x) (hl : look (M.set i x') = look M) (H : Holds e w (pts x'.pb (pgObj x') :: pts x'.gb (bsObj x') :: modX m mb M i R)) :
    Holds e w (pts m (modObj mb) :: mapZ mb 68719476736 (look (M.set i x')) :: all pageH (M.set i x') :: R) := by
  refine mod_back (i := i) (x := x') (by rw [List.getElem?_set_self (List.getElem?_eq_some_iff.1 hi).1]) ?_
  unfold modX at *
  rw [List.eraseIdx_set_eq, hl]
  exact H

/-- An op in memory. -/
def opObj (kind perm n : Int) (a : Nat) (d : Value) : Obj := .cells #[.int .i64 kind, .int .i64 perm, .int .i64 n, .int .u64 a, d] 48 (0, 0)
set_option maxRecDepth 100000 in
set_option maxHeartbeats 1000000 in
theorem stClo {bx gb k off : Nat} {kind perm n : Int} {a : Nat} {ds bs : List UInt8} {d : Value} (hr : ∀ w', Holds e w' R → RdB w' d ds) (hdl : ds.length ≤ 4611686018427387904)
    (H : Holds e w (pts gb (.cells (u8v bs).toArray 5 (0, 0)) :: pts bx (opObj kind perm n a d) :: R)) (hk : k < ds.length) (ho : off < bs.length) :
    Calls Tryz.prog 77 #[.int .i64 k, .pointer (some ⟨gb, off, none⟩), .pointer (some ⟨bx, 0, none⟩)] w
      (Ret e (.tuple #[]) (pts gb (.cells (u8v (bs.set off (ds.getD k 0))).toArray 5 (0, 0)) :: pts bx (opObj kind perm n a d) :: R)) := by
  obtain ⟨ad, c, rfl⟩ := (hr w H.drop.drop).shape
  have c0 : w.cell? ⟨bx, 4, none⟩ = some (.slice ad ds.length c) := H.swap.cells 4
  obtain ⟨g, o, rfl, h1⟩ := (hr w H.drop.drop).at (by omega)
  have c1 := h1 k _ (u8v_get hk)
  have c2 : ∃ v, w.cell? ⟨gb, off, none⟩ = some v := ⟨_, (H.cells off).trans (u8A_get ho)⟩
  obtain ⟨v2, c2⟩ := c2
  have f2 := H.frozen
  have hv := (ds.getD k 0).toNat_lt
  have H1 := (H.set off (.int .u8 ((ds.getD k 0).toNat : Int)))
  rw [u8_set] at H1
  generalize ds.getD k 0 = v at *
  have HH := Lib.hid H1
  clear H H1 h1 hr
  go_enter Tryz.func77, Tryz.ntmps77
  go_wp2_with fail
  go_end0
  exact ⟨rfl, HH.out⟩
end
theorem There.wrAt {M : List Pg} {a n : Nat} (h : There M a n) (b : Nat) (v : UInt8) : There (wrAt M b v) a n := fun j hj => by
  obtain ⟨h1, h2⟩ := h j hj
  exact ⟨h1, by rw [fnd_wrAt, Option.isSome_map]; exact h2⟩
theorem wrb_ok {M : List Pg} (hO : ModOk M) (a : Nat) : ∀ (l : List UInt8), ModOk (wrb M a l) ∧ look (wrb M a l) = look M ∧ ∀ a' n, There M a' n → There (wrb M a l) a' n := by
  intro l
  unfold wrb
  generalize l.zipIdx = ps
  induction ps generalizing M with
  | nil => exact ⟨hO, rfl, fun _ _ h => h⟩
  | cons p ps ih =>
    obtain ⟨h1, h2, h3⟩ := ih (hO.wrAt (a + p.2) p.1)
    exact ⟨h1, h2.trans (look_wrAt _ _ _), fun a' n h => h3 a' n (h.wrAt _ _)⟩

section
variable {e : Env} {w : World} {R : List HP} {m : Nat} {M : List Pg}
set_option maxRecDepth 100000 in
set_option maxHeartbeats 4000000 in
theorem eachStore {bx : Nat} {kind perm n : Int} {a : Nat} {ds : List UInt8} {d : Value} (hr : ∀ w', Holds e w' R → RdB w' d ds) (hn : ds.length ≤ 64) (hT : There M a ds.length)
    (H : Holds e w (modH m M :: pts bx (opObj kind perm n a d) :: R)) :
    Calls Tryz.prog 75 #[.pointer (some ⟨m, 0, none⟩), .int .u64 a, .int .i64 ds.length, .func (.func 77) #[] #[.pointer (some ⟨bx, 0, none⟩)]] w
      (Ret e (.tuple #[]) (modH m (wrb M a ds) :: pts bx (opObj kind perm n a d) :: R)) := by
  have CP := Lib.hid fun (b : Nat) (hb : b < 18446744073709551616) (w' : World) => vaPage (w := w') b hb
  have CO := Lib.hid fun (b : Nat) (hb : b < 18446744073709551616) (w' : World) => vaOffset (w := w') b hb
  have hO0 := (mod_open H).choose_spec.1
  have HW := Lib.hid fun l => wrb_ok hO0 a l
  have HR := Lib.hid hr
  obtain ⟨len, hlen⟩ : ∃ len, ds.length = len := ⟨_, rfl⟩
  rw [hlen] at hn hT
  rw [hlen]
  clear hO0 hr
  go_enter Tryz.func75, Tryz.ntmps75
  go_wp2_with fail
  go_loopw [11] (fun i wr => ∃ (k : Nat), k ≤ len ∧ i = .int .i64 (k : Nat) ∧ Holds e wr (modH m (wrb M a (ds.take k)) :: pts bx (opObj kind perm n a d) :: R)) (fun i _ => len - (Go.RowKit.intOf i).toNat)
  case atStart => exact ⟨0, by omega, rfl, H⟩
  case round =>
    obtain ⟨k, hk, rfl, HX⟩ := hrel
    by_cases hlt : k < len
    · obtain ⟨hO1, hlk, hT1⟩ := HW.out (ds.take k)
      obtain ⟨hb64, hsome⟩ := hT1 _ _ hT k hlt
      have HS1 : Hid (wrb M a (ds.take (k + 1)) = wrAt (wrb M a (ds.take k)) (a + k) (ds.getD k 0)) := Lib.hid (by
        have e1 : ds.take (k + 1) = ds.take k ++ [ds.getD k 0] := by rw [List.take_add_one, get_getD (d := 0) (by omega)]; rfl
        rw [e1, wrb_snoc, List.length_take, Nat.min_eq_left (by omega)])
      generalize wrb M a (ds.take k) = Mk at *
      obtain ⟨x, hf⟩ := Option.isSome_iff_exists.1 hsome
      obtain ⟨b, hb⟩ : ∃ b, a + k = b := ⟨_, rfl⟩
      rw [hb] at hb64 hf HS1
      have hab : (a : Int) + (k : Int) = (b : Int) := by omega
      have hol := offOf_lt b
      obtain ⟨mb, hO, HY⟩ := mod_open HX
      obtain ⟨ix, hix, hxq⟩ := fnd_at hf
      have hxl := hO.len x (List.mem_of_getElem? hix)
      have hwa : wrAt Mk b (ds.getD k 0) = Mk.set ix (x.put (offOf b) (ds.getD k 0)) := by
        unfold wrAt; rw [← hxq]; exact map_one hO hix _
      have hlw := look_wrAt Mk b (ds.getD k 0)
      have hO2 := hO.wrAt b (ds.getD k 0)
      rw [hwa] at hlw HS1 hO2
      obtain ⟨q, hq⟩ : ∃ q, pgOf b = q := ⟨_, rfl⟩
      obtain ⟨o, ho⟩ : ∃ o, offOf b = o := ⟨_, rfl⟩
      have CPb : Hid (∀ w' X, Holds e w' X → Calls Tryz.prog 70 #[.int .u64 b] w' (Ret e (.int .i64 q) X)) := Lib.hid fun w' X h => retQ (hq ▸ CP.out b hb64 w') h
      have COb : Hid (∀ w' X, Holds e w' X → Calls Tryz.prog 85 #[.int .u64 b] w' (Ret e (.int .i64 o) X)) := Lib.hid fun w' X h => retQ (ho ▸ CO.out b hb64 w') h
      rw [ho] at hol HS1 hlw hO2
      rw [hq] at hf
      have HO2 := Lib.hid hO2
      have HLW := Lib.hid hlw
      have HS : Hid (∀ w' X, Holds e w' (pts m (modObj mb) :: mapZ mb 68719476736 (look Mk) :: all pageH Mk :: X) → eachS m mb q x w') := Lib.hid fun w' X h => eachS_of hf hix h
      have hf2 : fnd (Mk.set ix (x.put o (ds.getD k 0))) q = some (x.put o (ds.getD k 0)) := by
        have := hO2.fndAt (i := ix) (x := x.put o (ds.getD k 0)) (by rw [List.getElem?_set_self (List.getElem?_eq_some_iff.1 hix).1])
        rw [← hq, ← hxq]
        exact this
      have hix2 : (Mk.set ix (x.put o (ds.getD k 0)))[ix]? = some (x.put o (ds.getD k 0)) := by rw [List.getElem?_set_self (List.getElem?_eq_some_iff.1 hix).1]
      have HS2 : Hid (∀ w' X, Holds e w' (pts m (modObj mb) :: mapZ mb 68719476736 (look (Mk.set ix (x.put o (ds.getD k 0)))) :: all pageH (Mk.set ix (x.put o (ds.getD k 0))) :: X) → eachS m mb q x w') := Lib.hid fun w' X h => eachS_of (x := x.put o (ds.getD k 0)) hf2 hix2 h
      have HC : Hid (∀ w', Holds e w' (pts m (modObj mb) :: mapZ mb 68719476736 (look Mk) :: all pageH Mk :: pts bx (opObj kind perm n a d) :: R) → Calls Tryz.prog 77 #[.int .i64 k, .pointer (some ⟨x.gb, o, none⟩), .pointer (some ⟨bx, 0, none⟩)] w'
          (Ret e (.tuple #[]) (pts m (modObj mb) :: mapZ mb 68719476736 (look (Mk.set ix (x.put o (ds.getD k 0)))) :: all pageH (Mk.set ix (x.put o (ds.getD k 0))) :: pts bx (opObj kind perm n a d) :: R))) := Lib.hid fun w' h => by
        have h1 := mod_at (R := pts bx (opObj kind perm n a d) :: R) hix h
        have h2 : Holds e w' (pts x.gb (.cells (u8v x.bs).toArray 5 (0, 0)) :: pts bx (opObj kind perm n a d) :: pts x.pb (pgObj x) :: pts m (modObj mb) :: mapZ mb 68719476736 (look Mk) :: all pageH (Mk.eraseIdx ix) :: R) := by
          exact h1.re 6 [1, 5, 0, 2, 3, 4]
        refine (stClo (fun w'' h => HR.out w'' (h.drop.drop.drop.drop)) (by omega) h2 (by omega) (by omega)).mono ?_
        rintro en w1 ⟨rfl, h4⟩
        have h5 : Holds e w1 (pts (x.put o (ds.getD k 0)).pb (pgObj (x.put o (ds.getD k 0))) :: pts (x.put o (ds.getD k 0)).gb (bsObj (x.put o (ds.getD k 0))) :: modX m mb Mk ix (pts bx (opObj kind perm n a d) :: R)) := h4.re 6 [2, 0, 3, 4, 5, 1]
        exact ⟨rfl, mod_turn hix HLW.out h5⟩
      have hoI : (o : Int) < 4096 := by omega
      have hoJ : (0 : Int) ≤ o := by omega
      have hd := HY.drew
      clear hb hq ho hf hsome hf2 hix2 hO2 hlw hwa hT1 hlk hO1
      go_wp2_with fail
      go_region_held3 (fun w' => w'.cell? ⟨m, 0, none⟩ = some (.map (some mb)) ∧ (Instr.lookup 78 (.map (some mb)) (.int .i64 q) false).run Tryz.prog w' = .ok (.pointer (some ⟨x.pb, 0, none⟩)) w' ∧ w'.cell? ⟨x.pb, 1, none⟩ = some (.slice (some ⟨x.gb, 0, none⟩) 4096 4096))
        (first | exact HS.out _ _ (by assumption) | exact HS2.out _ _ (by assumption))
        (first
          | (go_at_call 70; refine (CPb.out _ _ (by assumption)).mono ?_; rintro e w4 ⟨rfl, HN⟩)
          | (go_at_call 85; refine (COb.out _ _ (by assumption)).mono ?_; rintro e w4 ⟨rfl, HN⟩)
          | (go_at_call 77; refine (HC.out _ (by assumption)).mono ?_; rintro e w4 ⟨rfl, HN⟩))
      all_goals
        have HM := mod_close HO2.out HN
        rw [← HS1.out] at HM
        clear HS HC CPb COb HN hd HY HS2 HLW HO2 HS1
        go_wp2_with fail
        go_roundw
        case rel => exact ⟨k + 1, by omega, by go_num, HM⟩
        case measure => simp [Go.RowKit.intOf]; omega
    · obtain rfl : k = len := by omega
      rw [List.take_of_length_le (by omega)] at HX
      go_wp2_with fail
      go_end0
      exact ⟨rfl, HX⟩
end
end Go.Proofs.YtjbphdjheklhbaaGreat

/-
  Package model: at, first, wants; stored, read.
-/
namespace Go.Proofs.YtjbphdjheklhbaaGreat
open Go.RowKit

def firstE : List Int → Int
  | [] => 0
  | x :: l => if x = 0 then firstE l else x
theorem firstE_stop {l : List Int} {k : Nat} (hk : k < l.length) (h0 : ∀ j, j < k → l.getD j 0 = 0) (h : l.getD k 0 ≠ 0) : firstE l = l.getD k 0 := by
  induction l generalizing k with
  | nil => simp at hk
  | cons x l ih =>
    cases k with
    | zero => simp at h ⊢; unfold firstE; rw [if_neg h]
    | succ k =>
      have hx : x = 0 := by simpa using h0 0 (by omega)
      unfold firstE
      rw [if_pos hx]
      simp only [List.getD_cons_succ] at h ⊢
      exact ih (by simpa using hk) (fun j hj => by simpa using h0 (j + 1) (by omega)) h
theorem firstE_zero {l : List Int} (h0 : ∀ j, j < l.length → l.getD j 0 = 0) : firstE l = 0 := by
  induction l with
  | nil => rfl
  | cons x l ih =>
    have hx : x = 0 := by simpa using h0 0 (by simp)
    unfold firstE
    rw [if_pos hx]
    exact ih fun j hj => by simpa using h0 (j + 1) (by simpa using hj)
/-- Why an address is no page's. -/
def atE (a : Nat) : Nat := if canon a = false then 8 else if offOf a ≠ 0 then 1 else 0

section
variable {w : World}
theorem modFirst (es : List Int) (hl : es.length ≤ 100) (v : Value) (hr : Reads w v 1 es.length (ints es)) : Calls Tryz.prog 71 #[v] w (Quiet w (.int .i64 (firstE es))) := by
  obtain ⟨ad, c, rfl⟩ := hr.shape
  go_enter Tryz.func71, Tryz.ntmps71
  go_wp2_with fail
  go_loopw [7] (fun i wr => ∃ k : Nat, k ≤ es.length ∧ i = .int .i64 (k : Nat) ∧ Hid (∀ j, j < k → es.getD j 0 = 0) ∧ ∃ m, wr = w.drewN m) (fun i _ => es.length - (Go.RowKit.intOf i).toNat)
  case atStart => exact ⟨0, by omega, rfl, Lib.hid (fun j hj => by omega), 0, rfl⟩
  case round =>
    obtain ⟨k, hk, rfl, hz, m, rfl⟩ := hrel
    by_cases hlt : k < es.length
    · obtain ⟨g, o, rfl, h1⟩ := hr.at (by omega)
      have c1 := h1 k _ (ints_get (get_getD (d := 0) hlt))
      have HX : Hid (∀ j, j < k → es.getD j 0 = 0) := hz
      by_cases hx : es.getD k 0 = 0
      · have HZ : Hid (∀ j, j < k + 1 → es.getD j 0 = 0) := Lib.hid fun j hj => by
          rcases Nat.lt_succ_iff_lt_or_eq.1 hj with hj | rfl
          · exact hz.out j hj
          · exact hx
        rw [hx] at c1
        clear h1 hx hz HX
        go_wp2_with fail
        go_roundw
        case rel => exact ⟨k + 1, by omega, by go_num, HZ, _, rfl⟩
        case measure => simp [Go.RowKit.intOf]; omega
      · have HF : Hid (firstE es = es.getD k 0) := Lib.hid (firstE_stop hlt hz.out hx)
        generalize es.getD k 0 = x at *
        have hxb : (x != 0) = true := by simpa using hx
        clear h1 hz HX
        go_wp2_with fail
        go_ret
        exact ⟨by rw [HF.out]; rfl, _, rfl⟩
    · obtain rfl : k = es.length := by omega
      have HF : Hid (firstE es = 0) := Lib.hid (firstE_zero hz.out)
      clear hz
      go_wp2_with fail
      go_ret
      exact ⟨by rw [HF.out]; rfl, _, rfl⟩
theorem modWants (b : Bool) (x : Int) : Calls Tryz.prog 58 #[.bool b, .int .i64 x] w (Quiet w (.int .i64 (if b then 0 else x))) := by
  cases b
  all_goals
    go_enter Tryz.func58, Tryz.ntmps58
    go_wp2_with fail
    go_ret
    exact ⟨rfl, 0, rfl⟩
theorem modAt (a : Nat) (ha : a < 18446744073709551616) : Calls Tryz.prog 72 #[.int .u64 a] w (Quiet w (.int .i64 (atE a))) := by
  have hc := fun w => vaCanon (w := w) a ha
  have ho := fun w => vaOffset (w := w) a ha
  have hol := offOf_lt a
  by_cases h : canon a = true
  · rw [h] at hc
    by_cases h0 : offOf a = 0
    · have HE : Hid (atE a = 0) := Lib.hid (by unfold atE; rw [if_neg (by rw [h]; decide), if_neg (by omega)])
      rw [h0] at ho
      clear h h0 hol
      go_enter Tryz.func72, Tryz.ntmps72
      go_wp2_with fail
      refine (hc _).mono ?_
      rintro e w1 ⟨rfl, n1, rfl⟩
      go_wp2_with fail
      refine (ho _).mono ?_
      rintro e w1 ⟨rfl, n2, rfl⟩
      go_wp2_with fail
      go_ret
      exact ⟨by rw [HE.out]; rfl, _, rfl⟩
    · have HE : Hid (atE a = 1) := Lib.hid (by unfold atE; rw [if_neg (by rw [h]; decide), if_pos (by omega)])
      generalize offOf a = o at *
      have hne : ((o : Int) != 0) = true := by simpa using h0
      clear h h0
      go_enter Tryz.func72, Tryz.ntmps72
      go_wp2_with fail
      refine (hc _).mono ?_
      rintro e w1 ⟨rfl, n1, rfl⟩
      go_wp2_with fail
      refine (ho _).mono ?_
      rintro e w1 ⟨rfl, n2, rfl⟩
      go_wp2_with fail
      go_ret
      exact ⟨by rw [HE.out]; rfl, _, rfl⟩
  · have h' : canon a = false := by simpa using h
    rw [h'] at hc
    have HE : Hid (atE a = 8) := Lib.hid (by unfold atE; rw [if_pos h'])
    clear h h' ho hol
    go_enter Tryz.func72, Tryz.ntmps72
    go_wp2_with fail
    refine (hc _).mono ?_
    rintro e w1 ⟨rfl, n1, rfl⟩
    go_wp2_with fail
    go_ret
    exact ⟨by rw [HE.out]; rfl, _, rfl⟩
end

def opVal (kind perm n : Int) (a : Nat) (d : Value) : Value := .agg #[.int .i64 kind, .int .i64 perm, .int .i64 n, .int .u64 a, d]
section
variable {e : Env} {w : World} {R : List HP} {m : Nat} {M : List Pg}
set_option maxRecDepth 100000 in
set_option maxHeartbeats 1000000 in
theorem modStored {kind perm n : Int} {a : Nat} (ha : a < 18446744073709551616) {ds : List UInt8} {d : Value} (hr : ∀ w', Holds e w' R → RdB w' d ds) (hl : ds.length ≤ 4611686018427387904) (H : Holds e w (modH m M :: R)) :
    Calls Tryz.prog 57 #[.pointer (some ⟨m, 0, none⟩), opVal kind perm n a d] w
      (Ret e (.int .i64 (chk M a ds.length 2)) (modH m (if chk M a ds.length 2 = 0 then wrb M a ds else M) :: R)) := by
  obtain ⟨ad, c, rfl⟩ := (hr w H.drop).shape
  have hmf : ∀ (fn : Fn) (first cap : Array Value) (w : World), (Instr.makeFunc fn first cap).run Tryz.prog w = .ok (.func fn first cap) w := fun _ _ _ _ => rfl
  have H1 := H.alloc (opObj kind perm n a (.slice ad ds.length c))
  generalize hbx : w.heap.size = bx at H1
  have CM : Hid (∀ w', Holds e w' (pts bx (opObj kind perm n a (.slice ad ds.length c)) :: modH m M :: R) → Calls Tryz.prog 74 #[.pointer (some ⟨m, 0, none⟩), .int .u64 a, .int .i64 ds.length, .int .i64 2] w' (Ret e (.int .i64 (chk M a ds.length 2)) (pts bx (opObj kind perm n a (.slice ad ds.length c)) :: modH m M :: R))) := Lib.hid fun w' h =>
    retC (modMay h.swap a ha ds.length (by omega) (by omega) 2 (by omega)) fun w'' h => h.swap
  have hce : ∀ w' (T : List HP), Holds e w' (pts bx (opObj kind perm n a (.slice ad ds.length c)) :: T) → w'.cell? ⟨bx, 3, none⟩ = some (.int .u64 a) ∧ w'.cell? ⟨bx, 4, none⟩ = some (.slice ad ds.length c) := fun w' T h => ⟨h.cells 3, h.cells 4⟩
  have HCE := Lib.hid hce
  obtain ⟨q3, q4⟩ := hce _ _ H1
  have HC0 : Hid (chk M a ds.length 2 = 0 → There M a ds.length ∧ ds.length ≤ 64) := Lib.hid fun h => by
    unfold chk at h
    split at h
    · cases h
    · rw [Int.toNat_natCast] at h
      exact ⟨there_of_chk h, by omega⟩
  have HR := Lib.hid hr
  clear hr hce H
  generalize chk M a ds.length 2 = E at *
  unfold opVal
  unfold opObj at H1 q3 q4
  by_cases hE : E = 0
  · subst hE
    obtain ⟨hT, hl64⟩ := HC0.out rfl
    rw [if_pos rfl]
    clear HC0
    go_enter Tryz.func57, Tryz.ntmps57
    go_wp2_with fail
    refine (CM.out _ (by rw [← hbx] at H1 ⊢; exact H1)).mono ?_
    rintro en w1 ⟨rfl, H2⟩
    obtain ⟨r3, r4⟩ := HCE.out _ _ H2
    clear q3 q4
    subst hbx
    go_wp2_with fail
    refine (eachStore (fun w' h => HR.out w' h) hl64 hT H2.swap).mono ?_
    rintro en w2 ⟨rfl, H3⟩
    have H4 := H3.d1
    go_wp2_with fail
    go_ret
    exact ⟨rfl, H4⟩
  · rw [if_neg hE]
    have hEb : ((E : Int) == 0) = false := by simp; omega
    clear HC0 hE
    go_enter Tryz.func57, Tryz.ntmps57
    go_wp2_with fail
    refine (CM.out _ (by rw [← hbx] at H1 ⊢; exact H1)).mono ?_
    rintro en w1 ⟨rfl, H2⟩
    have H3 := H2.drop
    go_wp2_with fail
    go_ret
    exact ⟨rfl, H3⟩
end
end Go.Proofs.YtjbphdjheklhbaaGreat

/-
  Package model: read.
-/
namespace Go.Proofs.YtjbphdjheklhbaaGreat
open Go.RowKit

theorem madeB (n : Nat) : madeCells #[Value.int .u8 0] n = (u8v (List.replicate n 0)).toArray := by
  apply Array.toList_inj.1
  simp [madeCells, u8v, Array.toList_range, List.map_const', Nat.mod_one]
theorem mkB (n : Nat) (hn : n ≤ 4096) (W : World) : (Instr.makeSlice 23 (.int .i64 n) (.int .i64 n)).run Tryz.prog W = .ok (.slice (some ⟨W.heap.size, 0, none⟩) n n) (W.alloc (.cells (u8v (List.replicate n 0)).toArray 5)) := by
  obtain ⟨i0, hi, hz0, hz1, hz2⟩ := info_parts (P := Tryz.prog) (e := 5) (z := .int .u8 0) (size := 1) (bytes := 1) (by kernel_rfl)
  have h := run_make (P := Tryz.prog) W 23 5 i0 (.int .u8 0) (by kernel_rfl) hi hz0 .i64 .i64 (n : Int) (n : Int) (by omega) (by omega) (by rw [hz2]; omega) (by omega)
  rw [hz1] at h
  simpa [madeB, Value.cells] using h
def ansVal (E : Int) (v : Value) : Value := .agg #[.int .i64 E, .int .i64 0, v]
/-- What is read, or nothing. -/
def rdE (M : List Pg) (a : Nat) (n : Int) (u : Nat) : List UInt8 := if chk M a n u = 0 then rdb M a n.toNat else []
theorem bts_made {e : Env} {w : World} {R : List HP} {b : Nat} {l : List UInt8} (H : Holds e w (pts b (outObj l) :: R)) (hl : l.length ≤ 4096) : Holds e w (bts (.slice (some ⟨b, 0, none⟩) l.length l.length) l :: R) :=
  row.made H (Nat.le_refl _) (by unfold maxLen; omega) (by simp) (by rw [Nat.mul_one, List.take_of_length_le (by simp)])

section
variable {e : Env} {w : World} {R : List HP} {m : Nat} {M : List Pg}
set_option maxRecDepth 100000 in
set_option maxHeartbeats 1000000 in
theorem modRead {kind perm n : Int} {a : Nat} (ha : a < 18446744073709551616) (hn0 : -9223372036854775808 ≤ n) (hn1 : n ≤ 9223372036854775807) {d : Value} (u : Nat) (hu : u = 1 ∨ u = 2 ∨ u = 4) (hd : ∃ ad l c, d = .slice ad l c) (H : Holds e w (modH m M :: R)) :
    Calls Tryz.prog 56 #[.pointer (some ⟨m, 0, none⟩), opVal kind perm n a d, .int .i64 u] w
      (RetEx e (fun v : Value => ansVal (chk M a n u) v) (fun v => bts v (rdE M a n u) :: modH m M :: R)) := by
  obtain ⟨ad, c, l, rfl⟩ := hd
  have hmf : ∀ (fn : Fn) (first cap : Array Value) (w : World), (Instr.makeFunc fn first cap).run Tryz.prog w = .ok (.func fn first cap) w := fun _ _ _ _ => rfl
  have H1 := (H.alloc (opObj kind perm n a (.slice ad c l))).alloc (.cells #[.int .i64 0, .int .i64 0, .slice none 0 0] 50)
  rw [World.size_alloc] at H1
  generalize hbx : w.heap.size = bx at H1
  have CM : Hid (∀ w', Holds e w' (pts (bx + 1) (.cells #[.int .i64 0, .int .i64 0, .slice none 0 0] 50) :: pts bx (opObj kind perm n a (.slice ad c l)) :: modH m M :: R) → Calls Tryz.prog 74 #[.pointer (some ⟨m, 0, none⟩), .int .u64 a, .int .i64 n, .int .i64 u] w' (Ret e (.int .i64 (chk M a n u)) (pts (bx + 1) (.cells #[.int .i64 0, .int .i64 0, .slice none 0 0] 50) :: pts bx (opObj kind perm n a (.slice ad c l)) :: modH m M :: R))) := Lib.hid fun w' h =>
    retC (modMay (h.re 3 [2, 0, 1]) a ha n hn0 hn1 u hu) fun w'' h => h.re 3 [1, 2, 0]
  have HCE : Hid (∀ w' (T : List HP), Holds e w' (pts bx (opObj kind perm n a (.slice ad c l)) :: T) → w'.cell? ⟨bx, 2, none⟩ = some (.int .i64 n) ∧ w'.cell? ⟨bx, 3, none⟩ = some (.int .u64 a)) := Lib.hid fun w' T h => ⟨h.cells 2, h.cells 3⟩
  have H1' := H1
  obtain ⟨q2, q3⟩ := HCE.out _ _ H1.swap
  have HC0 : Hid (chk M a n u = 0 → ∃ N : Nat, n = (N : Int) ∧ N ≤ 64 ∧ There M a N ∧ rdE M a n u = rdb M a N) := Lib.hid fun h => by
    have h0 := h
    unfold chk at h
    split at h
    · cases h
    · refine ⟨n.toNat, by omega, by omega, there_of_chk h, ?_⟩
      unfold rdE; rw [if_pos h0]
  have HC1 : Hid (chk M a n u ≠ 0 → rdE M a n u = []) := Lib.hid fun h => by unfold rdE; rw [if_neg h]
  clear H H1'
  unfold ansVal
  generalize chk M a n u = E at *
  generalize rdE M a n u = out at *
  unfold opVal
  unfold opObj at H1
  have hb64 : -9223372036854775808 ≤ n := hn0
  by_cases hE : E = 0
  · subst hE
    obtain ⟨N, rfl, hN, hT, rfl⟩ := HC0.out rfl
    have hmk := fun W => mkB N (by omega) W
    clear HC0 HC1
    go_enter Tryz.func56, Tryz.ntmps56
    go_wp2_with fail
    refine (CM.out _ (by rw [← hbx] at H1 ⊢; exact H1)).mono ?_
    rintro en w1 ⟨rfl, H2⟩
    obtain ⟨r2, r3⟩ := HCE.out _ _ H2.swap
    have f2 := H2.frozen
    have l1 := H2.lt
    have l2 := H2.swap.lt
    have H3 := (H2.alloc (outObj (List.replicate N 0))).alloc (outCell w1.heap.size N)
    rw [World.size_alloc] at H3
    clear q2 q3 H1
    subst hbx
    go_wp2_with fail
    refine (eachRead hN a hT _ (by simp) (H3.re 5 [4, 0, 1, 2, 3])).mono ?_
    rintro en w2 ⟨rfl, H4⟩
    have g0 : w2.cell? ⟨w1.heap.size + 1, 0, none⟩ = some (.slice (some ⟨w1.heap.size, 0, none⟩) N N) := H4.swap.cells 0
    have H5 : Holds e w2 (pts (w.heap.size + 1) (.cells #[.int .i64 0, .int .i64 0, .slice none 0 0] 50) :: pts w1.heap.size (outObj (rdb M a N)) :: modH m M :: R) := H4.re 5 [3, 2, 0]
    have c5 := H5.cells
    have f5 := H5.frozen
    have H6 := ((H5.set 0 (.int .i64 0)).set 1 (.int .i64 0)).set 2 (.slice (some ⟨w1.heap.size, 0, none⟩) N N)
    have HH := Lib.hid H6
    clear H6 H5 H4 H3 H2
    go_wp2_with fail
    refine bodyPost_at HH.out fun w9 H9 => ?_
    have hc9 := H9.cells
    have H7 := bts_made H9.drop (by rw [rdb_length]; omega)
    rw [rdb_length] at H7
    exact bodyPost_ret (v := ansVal 0 (.slice (some ⟨w1.heap.size, 0, none⟩) N N)) (by simp [results, Tryz.results56, go_sem, ansVal, hc9]) rfl ⟨_, rfl, H7⟩
  · have hEb : ((E : Int) != 0) = true := by simp; omega
    have ho := HC1.out hE
    subst ho
    clear HC0 HC1 hE
    go_enter Tryz.func56, Tryz.ntmps56
    go_wp2_with fail
    refine (CM.out _ (by rw [← hbx] at H1 ⊢; exact H1)).mono ?_
    rintro en w1 ⟨rfl, H2⟩
    have c5 := H2.cells
    have f5 := H2.frozen
    have H6 := ((H2.set 0 (.int .i64 E)).set 1 (.int .i64 0)).set 2 (.slice none 0 0)
    have HH := Lib.hid H6
    clear H6 H2 H1
    subst hbx
    go_wp2_with fail
    refine bodyPost_at HH.out fun w9 H9 => ?_
    have hc9 := H9.cells
    exact bodyPost_ret (v := ansVal E (.slice none 0 0)) (by simp [results, Tryz.results56, go_sem, ansVal, hc9]) rfl ⟨_, rfl, bts.nil H9.drop.drop⟩
end
end Go.Proofs.YtjbphdjheklhbaaGreat

/-
  Package model: Map.
-/
namespace Go.Proofs.YtjbphdjheklhbaaGreat
open Go.RowKit

/-- The pages with one more. -/
def insPg (M : List Pg) (x : Pg) : List Pg := M.filter (fun y => decide (y.pg < x.pg)) ++ x :: M.filter (fun y => decide (x.pg < y.pg))
def mapE (M : List Pg) (a : Nat) (perm : Int) : Nat := if atE a ≠ 0 then atE a else if mayP perm = false then 1 else if (fnd M (pgOf a)).isSome then 7 else 0
def newPg (a : Nat) (perm : Int) (pb gb : Nat) : Pg := ⟨pgOf a, perm.toNat, List.replicate 4096 0, pb, gb⟩
/-- The pages behind Map; the new page's blocks. -/
def mapP (M : List Pg) (a : Nat) (perm : Int) (p : Nat × Nat) : List Pg := if mapE M a perm = 0 then insPg M (newPg a perm p.1 p.2) else M

theorem mapP_no {M : List Pg} {a : Nat} {perm : Int} (h : mapE M a perm ≠ 0) (p : Nat × Nat) : mapP M a perm p = M := if_neg h
theorem mapP_yes {M : List Pg} {a : Nat} {perm : Int} (h : mapE M a perm = 0) (p : Nat × Nat) : mapP M a perm p = insPg M (newPg a perm p.1 p.2) := if_pos h
theorem find?_filterM {M : List Pg} {p q : Pg → Bool} (h : ∀ y ∈ M, q y = true → p y = true) : (M.filter p).find? q = M.find? q := by
  induction M with
  | nil => rfl
  | cons y M ih =>
    have ih' := ih fun z hz => h z (List.mem_cons_of_mem _ hz)
    by_cases hq : q y = true
    · have hp := h y (List.mem_cons_self ..) hq
      rw [List.filter_cons_of_pos hp, List.find?_cons_of_pos hq, List.find?_cons_of_pos hq]
    · rw [List.find?_cons_of_neg hq]
      by_cases hp : p y = true
      · rw [List.filter_cons_of_pos hp, List.find?_cons_of_neg hq, ih']
      · rw [List.filter_cons_of_neg hp, ih']
theorem fnd_ins {M : List Pg} (x : Pg) (k : Nat) : fnd (insPg M x) k = if k = x.pg then some x else fnd M k := by
  unfold fnd insPg
  rw [List.find?_append]
  by_cases hk : k = x.pg
  · subst hk
    rw [if_pos rfl]
    have h1 : (M.filter (fun y => decide (y.pg < x.pg))).find? (fun y => y.pg == x.pg) = none := by
      rw [List.find?_eq_none]
      intro y hy
      rw [List.mem_filter] at hy
      have := hy.2
      simp at this ⊢
      omega
    rw [h1]
    simp
  · rw [if_neg hk]
    rw [List.find?_cons_of_neg (by simp; omega)]
    rcases Nat.lt_or_gt_of_ne hk with hl | hl
    · rw [find?_filterM (p := fun y => decide (y.pg < x.pg)) (fun y _ h => by simp at h ⊢; omega)]
      have h2 : (M.filter (fun y => decide (x.pg < y.pg))).find? (fun y => y.pg == k) = none := by
        rw [List.find?_eq_none]
        intro y hy
        rw [List.mem_filter] at hy
        have := hy.2
        simp at this ⊢
        omega
      rw [h2]
      simp
    · rw [find?_filterM (p := fun y => decide (x.pg < y.pg)) (fun y _ h => by simp at h ⊢; omega)]
      have h2 : (M.filter (fun y => decide (y.pg < x.pg))).find? (fun y => y.pg == k) = none := by
        rw [List.find?_eq_none]
        intro y hy
        rw [List.mem_filter] at hy
        have := hy.2
        simp at this ⊢
        omega
      rw [h2]
      rfl
theorem look_ins {M : List Pg} (x : Pg) : look (insPg M x) = mput (look M) x.pg x.ptr := by
  funext k
  unfold look mput
  simp only [fnd_ins]
  by_cases h0 : 0 ≤ k
  · simp only [if_pos h0]
    by_cases hk : k = (x.pg : Int)
    · subst hk; simp
    · rw [if_neg hk, if_neg (by omega)]
  · simp only [if_neg h0]
    rw [if_neg (by omega)]
theorem ins_perm {M : List Pg} {x : Pg} (hno : fnd M x.pg = none) : (x :: M).Perm (insPg M x) := by
  unfold insPg
  have h1 : M.Perm (M.filter (fun y => decide (y.pg < x.pg)) ++ M.filter (fun y => decide (x.pg < y.pg))) := by
    have h2 := (List.filter_append_perm (fun y : Pg => decide (y.pg < x.pg)) M).symm
    have h3 : M.filter (fun y => !decide (y.pg < x.pg)) = M.filter (fun y => decide (x.pg < y.pg)) := by
      apply List.filter_congr
      intro y hy
      have := List.find?_eq_none.1 hno y hy
      simp at this
      rw [Bool.eq_iff_iff]
      simp
      omega
    rw [h3] at h2
    exact h2
  exact (List.Perm.cons x h1).trans List.perm_middle.symm
theorem ModOk.ins {M : List Pg} (h : ModOk M) {x : Pg} (hx1 : x.pg < 68719476736) (hx2 : x.perm ≤ 7) (hx3 : x.bs.length = 4096) : ModOk (insPg M x) := by
  have mem : ∀ y ∈ insPg M x, y = x ∨ y ∈ M := fun y hy => by
    unfold insPg at hy
    rcases List.mem_append.1 hy with hy | hy
    · exact .inr (List.mem_filter.1 hy).1
    · rcases List.mem_cons.1 hy with rfl | hy
      · exact .inl rfl
      · exact .inr (List.mem_filter.1 hy).1
  refine ⟨?_, ?_, ?_, ?_⟩
  · unfold insPg
    rw [List.pairwise_append]
    refine ⟨h.rise.filter _, ?_, ?_⟩
    · rw [List.pairwise_cons]
      exact ⟨fun y hy => by simpa using (List.mem_filter.1 hy).2, h.rise.filter _⟩
    · intro y hy z hz
      have h1 : y.pg < x.pg := by simpa using (List.mem_filter.1 hy).2
      rcases List.mem_cons.1 hz with rfl | hz
      · exact h1
      · have h2 : x.pg < z.pg := by simpa using (List.mem_filter.1 hz).2
        omega
  · intro y hy
    rcases mem y hy with rfl | hy
    · exact hx1
    · exact h.lt y hy
  · intro y hy
    rcases mem y hy with rfl | hy
    · exact hx2
    · exact h.perm y hy
  · intro y hy
    rcases mem y hy with rfl | hy
    · exact hx3
    · exact h.len y hy

/-- The world behind an update of a map. -/
noncomputable def updW (t : TypeId) (b : Nat) (x : Int) (v : Value) (w : World) : World := match (Instr.mapUpdate t (.map (some b)) (.int .i64 x) v).run Tryz.prog w with
  | .ok _ w' => w'
  | .halt _ w' => w'

section
variable {e : Env} {w : World} {R : List HP} {m : Nat} {M : List Pg}
theorem updW_spec {b N : Nat} {D : Int → Option Value} {t kt et : TypeId} (H : Holds e w (mapZ b N D :: R)) (ht : Tryz.prog.underlying t = some (.map kt et)) (hk : Tryz.prog.underlying kt = some (.int .i64)) {x : Int} (h0 : 0 ≤ x) (hN : x < N) (v : Value) :
    (Instr.mapUpdate t (.map (some b)) (.int .i64 x) v).run Tryz.prog w = .ok () (updW t b x v w) ∧ Holds e (updW t b x v w) (mapZ b N (mput D x v) :: R) := by
  obtain ⟨w', h1, h2⟩ := mapZ_update (P := Tryz.prog) H ht hk h0 hN v
  have : updW t b x v w = w' := by unfold updW; rw [h1]
  rw [this]
  exact ⟨h1, h2⟩
theorem Holds.allPerm {α : Type} {f : α → HP} {l l' : List α} (p : l.Perm l') (H : Holds e w (all f l :: R)) : Holds e w (all f l' :: R) :=
  H.head fun _ s => Sat.perm (p.map f) s

/-- The pages as an op finds them: the page of its address, looked up. -/
def lookV (o : Option Pg) : Value := match o with | some x => .tuple #[x.ptr, .bool true] | none => .tuple #[.pointer none, .bool false]
def ptrO (o : Option Pg) : Value := match o with | some x => x.ptr | none => .pointer none
theorem modLook {mb : Nat} (H : Holds e w (pts m (modObj mb) :: mapZ mb 68719476736 (look M) :: all pageH M :: R)) (q : Nat) : (Instr.lookup 78 (.map (some mb)) (.int .i64 q) true).run Tryz.prog w = .ok (.tuple #[ptrO (fnd M q), .bool (fnd M q).isSome]) w := by
  have hzv : ∀ w, (zeroValue 105).run Tryz.prog w = .ok (.pointer none) w := fun w => by kernel_rfl
  have := mapZ_lookup (P := Tryz.prog) (t := 78) (kt := 3) (et := 105) H.swap (by kernel_rfl) (by kernel_rfl) (hzv w) true (q : Int)
  rw [look_nat] at this
  rw [this]
  cases fnd M q with
  | none => rfl
  | some x => rfl

def errLit (e1 e2 e3 : Int) : Obj := .cells #[.int .i64 e1, .int .i64 e2, .int .i64 e3] 29 (0, 0)
def errLit2 (e1 e2 : Int) : Obj := .cells #[.int .i64 e1, .int .i64 e2] 29 (0, 0)
theorem first3 {blk : Nat} {e1 e2 e3 : Int} (H : Holds e w (pts blk (errLit e1 e2 e3) :: R)) : Calls Tryz.prog 71 #[.slice (some ⟨blk, 0, none⟩) 3 3] w (Ret e (.int .i64 (firstE [e1, e2, e3])) R) := by
  refine retC (retQ (modFirst [e1, e2, e3] (by simp) _ ⟨rfl, .inr ⟨_, _, rfl, Nat.le_refl _, fun j u hj => ?_⟩⟩) H) fun _ h => h.drop
  rw [Addr.add_at, Nat.zero_add, H.cells]
  simpa [ints] using hj
theorem first2 {blk : Nat} {e1 e2 : Int} (H : Holds e w (pts blk (errLit2 e1 e2) :: R)) : Calls Tryz.prog 71 #[.slice (some ⟨blk, 0, none⟩) 2 2] w (Ret e (.int .i64 (firstE [e1, e2])) R) := by
  refine retC (retQ (modFirst [e1, e2] (by simp) _ ⟨rfl, .inr ⟨_, _, rfl, Nat.le_refl _, fun j u hj => ?_⟩⟩) H) fun _ h => h.drop
  rw [Addr.add_at, Nat.zero_add, H.cells]
  simpa [ints] using hj

set_option maxRecDepth 100000 in
set_option maxHeartbeats 4000000 in
theorem modMapped {kind perm n : Int} {a : Nat} (ha : a < 18446744073709551616) {d : Value} (hd : ∃ ad l c, d = .slice ad l c) (H : Holds e w (modH m M :: R)) :
    Calls Tryz.prog 53 #[.pointer (some ⟨m, 0, none⟩), opVal kind perm n a d] w
      (RetEx e (fun _ : Nat × Nat => .int .i64 (mapE M a perm)) (fun p => modH m (mapP M a perm p) :: R)) := by
  obtain ⟨ad, c, l, rfl⟩ := hd
  obtain ⟨mb, hO, HY⟩ := mod_open H
  have HY1 := HY.alloc (opObj kind perm n a (.slice ad c l))
  generalize hbx : w.heap.size = bx at HY1
  obtain ⟨q, hq⟩ : ∃ q, pgOf a = q := ⟨_, rfl⟩
  have hql : q < 68719476736 := hq ▸ pgOf_lt a
  have CP : Hid (∀ w', Calls Tryz.prog 70 #[.int .u64 a] w' (Quiet w' (.int .i64 q))) := Lib.hid fun w' => hq ▸ vaPage (w := w') a ha
  have CA : Hid (∀ w' X, Holds e w' X → Calls Tryz.prog 72 #[.int .u64 a] w' (Ret e (.int .i64 (atE a)) X)) := Lib.hid fun w' X h => retQ (modAt a ha) h
  have CM : Hid (∀ w' X, Holds e w' X → Calls Tryz.prog 73 #[.int .i64 perm] w' (Ret e (.bool (mayP perm)) X)) := Lib.hid fun w' X h => retQ (pteMay perm) h
  have HL : Hid (∀ w', Holds e w' (pts bx (opObj kind perm n a (.slice ad c l)) :: pts m (modObj mb) :: mapZ mb 68719476736 (look M) :: all pageH M :: R) → (Instr.lookup 78 (.map (some mb)) (.int .i64 q) true).run Tryz.prog w' = .ok (.tuple #[ptrO (fnd M q), .bool (fnd M q).isSome]) w') := Lib.hid fun w' h => modLook h.drop q
  have HE : Hid (firstE [(atE a : Int), if mayP perm then 0 else 1, if !(fnd M q).isSome then 0 else 7] = (mapE M a perm : Int)) := Lib.hid (by
    unfold mapE
    rw [hq]
    by_cases h1 : atE a = 0
    · rw [if_neg (show ¬ (atE a ≠ 0) from fun h => h h1)]
      cases mayP perm <;> cases (fnd M q).isSome <;> simp [firstE, h1]
    · rw [if_pos h1]
      simp [firstE, h1])
  obtain ⟨pv, hpv⟩ : ∃ pv, ptrO (fnd M q) = pv := ⟨_, rfl⟩
  obtain ⟨ps, hps⟩ : ∃ ps, (fnd M q).isSome = ps := ⟨_, rfl⟩
  rw [hpv, hps] at HL
  rw [hps] at HE
  have CW1 : Hid (∀ w' X, Holds e w' X → Calls Tryz.prog 58 #[.bool (mayP perm), .int .i64 1] w' (Ret e (.int .i64 (if mayP perm then 0 else 1)) X)) := Lib.hid fun w' X h => retQ (modWants _ _) h
  have CW2 : Hid (∀ w' X, Holds e w' X → Calls Tryz.prog 58 #[.bool (!ps), .int .i64 7] w' (Ret e (.int .i64 (if !ps then 0 else 7)) X)) := Lib.hid fun w' X h => retQ (modWants _ _) h
  have CF : Hid (∀ w' blk e1 e2 e3 X, Holds e w' (pts blk (errLit e1 e2 e3) :: X) → Calls Tryz.prog 71 #[.slice (some ⟨blk, 0, none⟩) 3 3] w' (Ret e (.int .i64 (firstE [e1, e2, e3])) X)) := Lib.hid fun w' blk e1 e2 e3 X h => first3 h
  obtain ⟨e1, he1⟩ : ∃ e1 : Int, (if mayP perm then 0 else 1) = e1 := ⟨_, rfl⟩
  obtain ⟨e2, he2⟩ : ∃ e2 : Int, (if !ps then 0 else 7) = e2 := ⟨_, rfl⟩
  rw [he1] at CW1 HE
  rw [he2] at CW2 HE
  have HEQ : Hid ((if mayP perm then (0 : Int) else 1) = e1 ∧ (if !ps then (0 : Int) else 7) = e2 ∧ (fnd M q).isSome = ps ∧ pgOf a = q) := Lib.hid ⟨he1, he2, hps, hq⟩
  generalize hmp : mayP perm = mp at CM CW1
  clear he1 he2 hps hq
  unfold opVal
  clear H HY
  go_enter Tryz.func53, Tryz.ntmps53
  go_wp2_with fail
  obtain ⟨I, Wf, hI, hW, hWs⟩ := worlds_of HY1
  have r0 : ∀ i, (Wf i).cell? ⟨m, 0, none⟩ = some (.map (some mb)) := fun i => (hW i).swap.cells 0
  have r1 := fun i => HL.out _ (hW i)
  have r2 : ∀ i, (Wf i).cell? ⟨bx, 3, none⟩ = some (.int .u64 a) := fun i => (hW i).cells 3
  refine wp_region_holds hWs HY1 (by kernel_rfl) (by kernel_rfl) ?_
  (repeat (go_big_quiet_step ((go_at_call 70; exact quietQ (CP.out _) (hW _) hWs)))); refine wpQuiet_nil ?_; intro _ hw'; obtain ⟨nq, hw''⟩ := hw'; subst hw''
  have H2 := hW nq
  generalize Wf nq = w2 at H2
  clear r0 r1 r2 hW hWs HY1 HL CP
  have HK : Hid (∀ w' X, Holds e w' (pts bx (opObj kind perm n a (.slice ad c l)) :: X) → w'.cell? ⟨bx, 3, none⟩ = some (.int .u64 a) ∧ w'.cell? ⟨bx, 1, none⟩ = some (.int .i64 perm)) := Lib.hid fun w' X h => ⟨h.cells 3, h.cells 1⟩
  have hd2 := H2.drew
  go_wp2_with fail
  go_region_held3 (fun w' => w'.cell? ⟨bx, 3, none⟩ = some (.int .u64 a) ∧ w'.cell? ⟨bx, 1, none⟩ = some (.int .i64 perm))
    (first | exact HK.out _ _ (by assumption) | exact HK.out _ _ (Holds.drop (Holds.alloc (by assumption) _)))
    (first
      | (go_at_call 72; refine (CA.out _ _ (by assumption)).mono ?_; rintro e w4 ⟨rfl, HN⟩)
      | (go_at_call 73; refine (CM.out _ _ (by assumption)).mono ?_; rintro e w4 ⟨rfl, HN⟩)
      | (go_at_call 58; refine (CW1.out _ _ (by assumption)).mono ?_; rintro e w4 ⟨rfl, HN⟩)
      | (go_at_call 58; refine (CW2.out _ _ (by assumption)).mono ?_; rintro e w4 ⟨rfl, HN⟩)
      | (go_at_call 71; refine (CF.out _ _ _ _ _ _ (Holds.alloc (by assumption) _)).mono ?_; rintro e w4 ⟨rfl, HN⟩))
  clear hd2 H2 CA CM CW1 CW2 CF HK
  simp only [HE.out]
  obtain ⟨E, hEq⟩ : ∃ E, mapE M a perm = E := ⟨_, rfl⟩
  rw [hEq]
  by_cases hE : E = 0
  · subst hE
    have HE0 := Lib.hid hEq
    have hfn : fnd M q = none := by
      have hh := HEQ.out
      unfold mapE at hEq
      rw [hh.2.2.2] at hEq
      cases hf : fnd M q with
      | none => rfl
      | some x =>
        rw [hf] at hEq
        split at hEq
        · next h => exact absurd hEq h
        · split at hEq <;> simp at hEq
    have hmp1 : mayP perm = true := by
      unfold mapE at hEq
      split at hEq
      · next h => exact absurd hEq h
      · cases hm : mayP perm with
        | true => rfl
        | false => rw [hm] at hEq; simp at hEq
    have hpb := mayP_bd hmp1
    have hq : pgOf a = q := HEQ.out.2.2.2
    obtain ⟨Z, hZ⟩ : ∃ Z, (u8v (List.replicate 4096 0)).toArray = Z := ⟨_, rfl⟩
    have hmk : ∀ W, (Instr.makeSlice 23 (.int .i64 4096) (.int .i64 4096)).run Tryz.prog W = .ok (.slice (some ⟨W.heap.size, 0, none⟩) 4096 4096) (W.alloc (.cells Z 5)) := fun W => hZ ▸ mkB 4096 (by omega) W
    have CPq : Hid (∀ w' X, Holds e w' X → Calls Tryz.prog 70 #[.int .u64 a] w' (Ret e (.int .i64 q) X)) := Lib.hid fun w' X h => hq ▸ retQ (vaPage a ha) h
    have HK4 : Hid (∀ w' D X, Holds e w' (pts bx (opObj kind perm n a (.slice ad c l)) :: pts m (modObj mb) :: mapZ mb 68719476736 D :: X) →
        w'.cell? ⟨bx, 3, none⟩ = some (.int .u64 a) ∧ w'.cell? ⟨bx, 1, none⟩ = some (.int .i64 perm) ∧ w'.cell? ⟨m, 0, none⟩ = some (.map (some mb)) ∧ ∀ v, (Instr.mapUpdate 78 (.map (some mb)) (.int .i64 q) v).run Tryz.prog w' = .ok () (updW 78 mb q v w')) := Lib.hid fun w' D X h =>
      ⟨h.cells 3, h.cells 1, h.swap.cells 0, fun v => (updW_spec (t := 78) (kt := 3) (et := 105) h.p2 (by kernel_rfl) (by kernel_rfl) (by omega) (by omega) v).1⟩
    have HKU : Hid (∀ w' D X v, Holds e w' (pts bx (opObj kind perm n a (.slice ad c l)) :: pts m (modObj mb) :: mapZ mb 68719476736 D :: X) → Holds e (updW 78 mb q v w') (pts bx (opObj kind perm n a (.slice ad c l)) :: pts m (modObj mb) :: mapZ mb 68719476736 (mput D q v) :: X)) := Lib.hid fun w' D X v h =>
      (updW_spec (t := 78) (kt := 3) (et := 105) h.p2 (by kernel_rfl) (by kernel_rfl) (by omega) (by omega) v).2.re 3 [1, 2, 0]
    have HD : Hid (∀ W0 pb gb, Holds e W0 (pts pb (.cells #[.int .i64 perm, .slice (some ⟨gb, 0, none⟩) 4096 4096] 108) :: pts gb (.cells Z 5) :: pts bx (opObj kind perm n a (.slice ad c l)) :: pts m (modObj mb) :: mapZ mb 68719476736 (look M) :: all pageH M :: R) →
        Holds e (updW 78 mb q (.pointer (some ⟨pb, 0, none⟩)) W0) (modH m (mapP M a perm (pb, gb)) :: R)) := Lib.hid fun W0 pb gb h => by
      have hn : (newPg a perm pb gb).pg = q := hq
      have h1 := (updW_spec (t := 78) (kt := 3) (et := 105) (h.re 6 [4, 0, 1, 2, 3, 5]) (by kernel_rfl) (by kernel_rfl) (x := (q : Int)) (by omega) (by omega) (.pointer (some ⟨pb, 0, none⟩))).2
      have h2 : Holds e (updW 78 mb q (.pointer (some ⟨pb, 0, none⟩)) W0) (grp [pts pb (pgObj (newPg a perm pb gb)), pts gb (bsObj (newPg a perm pb gb))] :: all pageH M :: pts m (modObj mb) :: mapZ mb 68719476736 (mput (look M) q (.pointer (some ⟨pb, 0, none⟩))) :: R) := by
        refine Holds.mkGrp (L := [pts _ _, pts _ _]) ?_
        have e1 : pgObj (newPg a perm pb gb) = .cells #[.int .i64 perm, .slice (some ⟨gb, 0, none⟩) 4096 4096] 108 := by
          unfold pgObj newPg
          rw [show ((perm.toNat : Nat) : Int) = perm by omega]
        have e2 : bsObj (newPg a perm pb gb) = .cells Z 5 := by unfold bsObj newPg; rw [hZ]
        rw [e1, e2]
        exact h1.re 6 [1, 2, 5, 4, 0]
      have h3 := (Holds.allCons (f := pageH) (x := newPg a perm pb gb) h2).allPerm (ins_perm (x := newPg a perm pb gb) (by rw [hn]; exact hfn))
      rw [mapP_yes HE0.out]
      have e3 : mput (look M) (q : Int) (.pointer (some ⟨pb, 0, none⟩)) = look (insPg M (newPg a perm pb gb)) := by rw [look_ins, hn]; rfl
      rw [e3] at h3
      exact mod_close (hO.ins (by rw [hn]; omega) (by show perm.toNat ≤ 7; omega) (by simp [newPg])) (h3.re 3 [1, 2, 0])
    have hd4 := HN.drew
    clear HE hEq HEQ hpv hmp
    go_wp2_with fail
    go_region_held3 (fun w' => w'.cell? ⟨bx, 3, none⟩ = some (.int .u64 a) ∧ w'.cell? ⟨bx, 1, none⟩ = some (.int .i64 perm) ∧ w'.cell? ⟨m, 0, none⟩ = some (.map (some mb)) ∧ ∀ v, (Instr.mapUpdate 78 (.map (some mb)) (.int .i64 q) v).run Tryz.prog w' = .ok () (updW 78 mb q v w'))
      (first
        | exact HK4.out _ _ _ (by assumption)
        | exact HK4.out _ _ _ (Holds.drop (Holds.alloc (by assumption) _))
        | exact HK4.out _ _ _ (Holds.drop (Holds.drop (Holds.alloc (Holds.alloc (by assumption) _) _)))
        | exact HK4.out _ _ _ (Holds.drop (by assumption))
        | exact HK4.out _ _ _ (Holds.drop (Holds.drop (by assumption)))
        | exact HK4.out _ _ _ (Holds.drop (Holds.drop (Holds.alloc (by assumption) _)))
        | exact HK4.out _ _ _ (HKU.out _ _ _ _ (Holds.drop (Holds.drop (Holds.alloc (Holds.alloc (by assumption) _) _))))
        | exact HK4.out _ _ _ (HKU.out _ _ _ _ (Holds.drop (Holds.drop (by assumption))))
        | exact HK4.out _ _ _ (HKU.out _ _ _ _ (Holds.drop (Holds.drop (Holds.alloc (by assumption) _)))))
      (first
        | (go_at_call 70; refine (CPq.out _ _ (by first | assumption | exact Holds.alloc (by assumption) _ | exact Holds.alloc (Holds.alloc (by assumption) _) _)).mono ?_; rintro e w5 ⟨rfl, HN5⟩))
    all_goals
      clear hd4 HK4 HKU CPq
      go_wp2_with fail
      go_ret
      first
        | (have HX := Holds.alloc (Holds.alloc HN5 (.cells Z 5)) (.cells #[.int .i64 perm, .slice (some ⟨w5.heap.size, 0, none⟩) 4096 4096] 108); rw [World.size_alloc] at HX; exact ⟨(_, _), by rw [HE0.out]; rfl, HD.out _ _ _ HX⟩)
        | (have HX := Holds.alloc HN5 (.cells #[.int .i64 perm, .slice (some ⟨w4.heap.size, 0, none⟩) 4096 4096] 108); exact ⟨(_, _), by rw [HE0.out]; rfl, HD.out _ _ _ HX⟩)
        | (have HX := HN5; rw [World.size_alloc] at HX; exact ⟨(_, _), by rw [HE0.out]; rfl, HD.out _ _ _ HX⟩)
  · have HE0 := Lib.hid hEq
    have hEb : ((E : Int) == 0) = false := by simp; omega
    have HH := Lib.hid (mod_close hO HN.drop)
    have HNE := Lib.hid hE
    clear HN hE hEq HE HEQ
    go_wp2_with fail
    go_ret
    exact ⟨(0, 0), by rw [HE0.out]; rfl, by show Holds e w4 (modH m (mapP M a perm (0, 0)) :: R); rw [mapP_no (by rw [HE0.out]; exact HNE.out)]; exact HH.out⟩
end
end Go.Proofs.YtjbphdjheklhbaaGreat
