/-
  A small separation logic over the model's heap: assertions are predicates over partial heaps, a symbolic heap is a list of assertions that hold of disjoint parts of the heap. No program in sight.
-/
import Derived.Test.YtjbphdjheklhbaaRows
import Derived.WalkKit
import Derived.WalkSpells
import Derived.WalkLawsBesides
import Derived.Deep.QuietTactic
import Derived.BigQuiet
import Derived.Lib.Hide
import Derived.StillTailTactics
import Derived.Deep.RegionWith
namespace Go.Proofs.Ytjbphdjheklhbaa
open Go.RowKit

abbrev PH := Nat → Option Obj
abbrev HP := PH → Prop

structure Env where
  os : Os
  output : Array (Nat × ByteArray)
  tape : Nat → Question → Nat

/-- The assertions hold of disjoint parts. -/
def Sat : List HP → PH → Prop
  | [], _ => True
  | X :: A, h => ∃ h1 h2 : PH, (∀ b, h1 b = none ∨ h2 b = none) ∧ (∀ b o, h1 b = some o → h b = some o) ∧ (∀ b o, h2 b = some o → h b = some o) ∧ X h1 ∧ Sat A h2

structure Holds (e : Env) (w : World) (A : List HP) : Prop where
  os : w.os = e.os
  output : w.output = e.output
  tape : w.tape = e.tape
  sat : Sat A (fun b => w.heap[b]?)

def pts (b : Nat) (o : Obj) : HP := fun h => h b = some o
def pur (p : Prop) : HP := fun _ => p
def grp (L : List HP) : HP := fun h => Sat L h
def exh {α : Type} (f : α → HP) : HP := fun h => ∃ x, f x h
/-- All that the world W holds. -/
def base (W : World) : HP := fun h => ∀ b o, W.heap[b]? = some o → h b = some o

def Take (A : List HP) (X : HP) (R : List HP) : Prop := ∀ h, Sat A h → Sat (X :: R) h

theorem Sat.mono {A : List HP} {h h' : PH} (hs : Sat A h) (hh : ∀ b o, h b = some o → h' b = some o) : Sat A h' := by
  cases A with
  | nil => trivial
  | cons X A =>
    obtain ⟨h1, h2, d, e1, e2, x, s⟩ := hs
    exact ⟨h1, h2, d, fun b o g => hh b o (e1 b o g), fun b o g => hh b o (e2 b o g), x, s⟩

theorem Take.here (X : HP) (R : List HP) : Take (X :: R) X R := fun _ h => h

theorem Take.there {A R : List HP} {X : HP} (Y : HP) (t : Take A X R) : Take (Y :: A) X (Y :: R) := by
  intro h ⟨h1, h2, d, e1, e2, y, s⟩
  obtain ⟨g1, g2, d', f1, f2, x, s'⟩ := t h2 s
  refine ⟨g1, fun b => (h1 b).or (g2 b), ?_, fun b o g => e2 b o (f1 b o g), ?_, x, h1, g2, ?_, ?_, ?_, y, s'⟩
  · intro b
    rcases d' b with q | q
    · exact .inl q
    · rcases d b with r | r
      · exact .inr (by simp [r, q])
      · refine .inl ?_
        cases hg : g1 b with
        | none => rfl
        | some o => rw [f1 b o hg] at r; cases r
  · intro b o g
    cases hh : h1 b with
    | some o' => simp [hh] at g; subst g; exact e1 b _ hh
    | none => simp [hh] at g; exact e2 b _ (f2 b _ g)
  · intro b
    rcases d b with r | r
    · exact .inl r
    · refine .inr ?_
      cases hg : g2 b with
      | none => rfl
      | some o => rw [f2 b o hg] at r; cases r
  · intro b o g; simp [g]
  · intro b o g
    rcases d b with r | r
    · simp [r, g]
    · rw [f2 b o g] at r; cases r

theorem Sat.cons {X : HP} {A A' : List HP} (f : ∀ h, Sat A h → Sat A' h) {h : PH} (s : Sat (X :: A) h) : Sat (X :: A') h :=
  let ⟨h1, h2, d, e1, e2, x, s⟩ := s
  ⟨h1, h2, d, e1, e2, x, f h2 s⟩

theorem Sat.head {X Y : HP} {A : List HP} (f : ∀ h, X h → Y h) {h : PH} (s : Sat (X :: A) h) : Sat (Y :: A) h :=
  let ⟨h1, h2, d, e1, e2, x, s⟩ := s
  ⟨h1, h2, d, e1, e2, f _ x, s⟩

theorem Sat.drop {X : HP} {A : List HP} {h : PH} (s : Sat (X :: A) h) : Sat A h :=
  let ⟨_, _, _, _, e2, _, s⟩ := s
  s.mono e2

theorem Sat.append {L A : List HP} {h : PH} : Sat (L ++ A) h ↔ Sat (grp L :: A) h := by
  induction L generalizing h with
  | nil =>
    refine ⟨fun s => ⟨fun _ => none, h, fun b => .inl rfl, fun b o g => (by cases g), fun b o g => g, trivial, s⟩, fun s => s.drop⟩
  | cons X L ih =>
    constructor
    · intro s
      obtain ⟨h1, h2, d, e1, e2, x, s⟩ := s
      obtain ⟨g1, g2, d', f1, f2, l, a⟩ := ih.1 s
      refine ⟨fun b => (h1 b).or (g1 b), g2, ?_, ?_, fun b o g => e2 b o (f2 b o g), ⟨h1, g1, ?_, ?_, ?_, x, l⟩, a⟩
      · intro b
        rcases d' b with q | q
        · rcases d b with r | r
          · exact .inl (by simp [r, q])
          · refine .inr ?_
            cases hg : g2 b with
            | none => rfl
            | some o => rw [f2 b o hg] at r; cases r
        · exact .inr q
      · intro b o g
        cases hh : h1 b with
        | some o' => simp [hh] at g; subst g; exact e1 b _ hh
        | none => simp [hh] at g; exact e2 b _ (f1 b _ g)
      · intro b
        rcases d b with r | r
        · exact .inl r
        · refine .inr ?_
          cases hg : g1 b with
          | none => rfl
          | some o => rw [f1 b o hg] at r; cases r
      · intro b o g; simp [g]
      · intro b o g
        rcases d b with r | r
        · simp [r, g]
        · rw [f1 b o g] at r; cases r
    · intro s
      obtain ⟨u, g2, d, e1, e2, ⟨h1, g1, d', f1, f2, x, l⟩, a⟩ := s
      refine ⟨h1, fun b => (g1 b).or (g2 b), ?_, fun b o g => e1 b o (f1 b o g), ?_, x, ih.2 ⟨g1, g2, ?_, fun b o g => by simp [g], ?_, l, a⟩⟩
      · intro b
        rcases d' b with q | q
        · exact .inl q
        · rcases d b with r | r
          · refine .inl ?_
            cases hg : h1 b with
            | none => rfl
            | some o => rw [f1 b o hg] at r; cases r
          · exact .inr (by simp [r, q])
      · intro b o g
        cases hh : g1 b with
        | some o' => simp [hh] at g; subst g; exact e1 b _ (f2 b _ hh)
        | none => simp [hh] at g; exact e2 b _ g
      · intro b
        rcases d b with r | r
        · refine .inl ?_
          cases hg : g1 b with
          | none => rfl
          | some o => rw [f2 b o hg] at r; cases r
        · exact .inr r
      · intro b o g
        rcases d b with r | r
        · cases hg : g1 b with
          | none => simp [hg, g]
          | some o => rw [f2 b o hg] at r; cases r
        · rw [g] at r; cases r

section
variable {e : Env} {w w' : World} {A R : List HP} {X Y : HP}

theorem Holds.take (h : Holds e w A) (t : Take A X R) : Holds e w (X :: R) := ⟨h.os, h.output, h.tape, t _ h.sat⟩
theorem Holds.imp (h : Holds e w A) (f : ∀ h, Sat A h → Sat R h) : Holds e w R := ⟨h.os, h.output, h.tape, f _ h.sat⟩
theorem Holds.head (h : Holds e w (X :: A)) (f : ∀ h, X h → Y h) : Holds e w (Y :: A) := h.imp fun _ => Sat.head f
theorem Holds.drop (h : Holds e w (X :: A)) : Holds e w A := h.imp fun _ => Sat.drop
theorem Holds.ungrp {L : List HP} (h : Holds e w (grp L :: A)) : Holds e w (L ++ A) := h.imp fun _ => Sat.append.2
theorem Holds.mkGrp {L : List HP} (h : Holds e w (L ++ A)) : Holds e w (grp L :: A) := h.imp fun _ => Sat.append.1
theorem Holds.exE {α : Type} {f : α → HP} (h : Holds e w (exh f :: A)) : ∃ x, Holds e w (f x :: A) := by
  obtain ⟨o, p, t, h1, h2, d, e1, e2, ⟨x, hx⟩, s⟩ := h
  exact ⟨x, o, p, t, h1, h2, d, e1, e2, hx, s⟩
theorem Holds.mkExh {α : Type} {f : α → HP} (x : α) (h : Holds e w (f x :: A)) : Holds e w (exh f :: A) := h.head fun _ g => ⟨x, g⟩
theorem Holds.purE {p : Prop} (h : Holds e w (pur p :: A)) : p := by
  obtain ⟨_, _, _, h1, h2, d, e1, e2, x, s⟩ := h
  exact x
theorem Holds.mkPur {p : Prop} (hp : p) (h : Holds e w A) : Holds e w (pur p :: A) :=
  ⟨h.os, h.output, h.tape, fun _ => none, _, fun b => .inl rfl, fun b o g => (by cases g), fun b o g => g, hp, h.sat⟩
theorem Holds.get {b : Nat} {o : Obj} (h : Holds e w (pts b o :: A)) : w.heap[b]? = some o := by
  obtain ⟨_, _, _, h1, h2, d, e1, e2, x, s⟩ := h
  exact e1 b o x
theorem Holds.baseE {W : World} (h : Holds e w (base W :: A)) {b : Nat} (hb : b < W.heap.size) : w.heap[b]? = W.heap[b]? := by
  obtain ⟨_, _, _, h1, h2, d, e1, e2, x, s⟩ := h
  have := x b W.heap[b] (Array.getElem?_eq_getElem hb)
  rw [Array.getElem?_eq_getElem hb]
  exact e1 b _ this
theorem Holds.baseSize {W : World} (h : Holds e w (base W :: A)) : W.heap.size ≤ w.heap.size := by
  apply Classical.byContradiction
  intro hn
  have h1 : w.heap.size < W.heap.size := by omega
  have := h.baseE (b := w.heap.size) h1
  rw [Array.getElem?_eq_none (Nat.le_refl _), Array.getElem?_eq_getElem h1] at this
  cases this
theorem Holds.below {W : World} (h : Holds e w (base W :: A)) (h1 : W.os = e.os) (h2 : W.output = e.output) (h3 : W.tape = e.tape) : Below W.heap.size W w :=
  ⟨h.os.trans h1.symm, h.tape.trans h3.symm, h.output.trans h2.symm, h.baseSize, fun _ hk => h.baseE hk⟩
theorem Holds.start (W : World) : Holds ⟨W.os, W.output, W.tape⟩ W [base W] :=
  ⟨rfl, rfl, rfl, fun b => W.heap[b]?, fun _ => none, fun _ => .inr rfl, fun _ _ g => g, fun _ _ g => (by cases g), fun _ _ g => g, trivial⟩

theorem Holds.cell {b i : Nat} {c : Array Value} {T : TypeId} {fz : Nat × Nat} {v : Value} (h : Holds e w (pts b (.cells c T fz) :: A)) (hv : c[i]? = some v) : w.cell? ⟨b, i, none⟩ = some v := by
  simp [World.cell?, h.get, hv]
theorem Holds.cells {b : Nat} {c : Array Value} {T : TypeId} {fz : Nat × Nat} (h : Holds e w (pts b (.cells c T fz) :: A)) : ∀ i, w.cell? ⟨b, i, none⟩ = c[i]? := by
  intro i; simp [World.cell?, h.get]
theorem Holds.frozen {b : Nat} {c : Array Value} {T : TypeId} (h : Holds e w (pts b (.cells c T (0, 0)) :: A)) : ∀ i, w.frozen? ⟨b, i, none⟩ = false := by
  intro i; simp [World.frozen?, h.get]
theorem Holds.lt {b : Nat} {o : Obj} (h : Holds e w (pts b o :: A)) : b < w.heap.size := by
  have := h.get
  exact (Array.getElem?_eq_some_iff.1 this).1
theorem Holds.ne {b b' : Nat} {o o' : Obj} (h : Holds e w (pts b o :: pts b' o' :: A)) : b ≠ b' := by
  obtain ⟨_, _, _, h1, h2, d, e1, e2, x, g1, g2, d', f1, f2, y, s⟩ := h
  rintro rfl
  rcases d b with r | r
  · rw [show h1 b = some o from x] at r; cases r
  · rw [f1 b o' y] at r; cases r

theorem Holds.drew (h : Holds e w A) : Holds e w.drew A := ⟨h.os, h.output, h.tape, h.sat⟩
theorem Holds.drewN (h : Holds e w A) (n : Nat) : Holds e (w.drewN n) A := by
  induction n with
  | zero => exact h
  | succ n ih => exact ih.drew
theorem Holds.drawn (h : Holds e w A) (n : Nat) : Holds e { w with drawn := n } A := ⟨h.os, h.output, h.tape, h.sat⟩

theorem Holds.alloc (h : Holds e w A) (o : Obj) : Holds e (w.alloc o) (pts w.heap.size o :: A) := by
  refine ⟨h.os, h.output, h.tape, fun b => if b = w.heap.size then some o else none, fun b => w.heap[b]?, ?_, ?_, ?_, by simp [pts], h.sat⟩
  · intro b
    by_cases hb : b = w.heap.size
    · right; subst hb; simp
    · left; simp [hb]
  · intro b o' g
    by_cases hb : b = w.heap.size
    · subst hb; simp at g; subst g; show (w.heap.push _)[w.heap.size]? = _; simp
    · simp [hb] at g
  · intro b o' g
    have : b < w.heap.size := (Array.getElem?_eq_some_iff.1 g).1
    exact (Below.heap_alloc w o _ this).trans g

theorem Holds.allocAt (h : Holds e w A) {o : Obj} {b : Nat} (hb : w.heap.size = b) : Holds e (w.alloc o) (pts b o :: A) := hb ▸ h.alloc o

theorem Holds.setObj {b : Nat} {o o' : Obj} (h : Holds e w (pts b o :: A)) (hos : w'.os = w.os) (hout : w'.output = w.output) (ht : w'.tape = w.tape) (hb : w'.heap[b]? = some o') (hne : ∀ k, k ≠ b → w'.heap[k]? = w.heap[k]?) : Holds e w' (pts b o' :: A) := by
  obtain ⟨p, q, r, h1, h2, d, e1, e2, x, s⟩ := h
  have h2b : h2 b = none := by
    rcases d b with g | g
    · rw [show h1 b = some o from x] at g; cases g
    · exact g
  refine ⟨hos.trans p, hout.trans q, ht.trans r, fun k => if k = b then some o' else none, h2, ?_, ?_, ?_, by simp [pts], s⟩
  · intro k
    by_cases hk : k = b
    · right; subst hk; exact h2b
    · left; simp [hk]
  · intro k u g
    by_cases hk : k = b
    · subst hk; simp at g; subst g; exact hb
    · simp [hk] at g
  · intro k u g
    have hk : k ≠ b := by rintro rfl; rw [h2b] at g; cases g
    show w'.heap[k]? = some u
    rw [hne k hk]
    exact e2 k u g

theorem Holds.set {b : Nat} {c : Array Value} {T : TypeId} {fz : Nat × Nat} (h : Holds e w (pts b (.cells c T fz) :: A)) (i : Nat) (v : Value) :
    Holds e (w.setCell ⟨b, i, none⟩ v) (pts b (.cells (c.setIfInBounds i v) T fz) :: A) := by
  refine h.setObj rfl rfl rfl ?_ fun k hk => ?_
  · simp [World.setCell, Array.getElem?_modify, h.get]
  · simp only [World.setCell, Array.getElem?_modify]
    rw [if_neg (fun e => hk e.symm)]

theorem Take.trans1 {A R R' : List HP} {X Y : HP} (t : Take A X R) (t' : Take R Y R') : ∀ h, Sat A h → Sat (X :: Y :: R') h := fun h s => Sat.cons t' (t h s)

/-- The world with a store into one of the blocks. -/
theorem Holds.set' {b : Nat} {c : Array Value} {T : TypeId} {fz : Nat × Nat} (h : Holds e w A) (t : Take A (pts b (.cells c T fz)) R) (i : Nat) (v : Value) :
    Holds e (w.setCell ⟨b, i, none⟩ v) (pts b (.cells (c.setIfInBounds i v) T fz) :: R) := (h.take t).set i v
theorem Holds.cells' {b : Nat} {c : Array Value} {T : TypeId} {fz : Nat × Nat} (h : Holds e w A) (t : Take A (pts b (.cells c T fz)) R) : ∀ i, w.cell? ⟨b, i, none⟩ = c[i]? := (h.take t).cells
end

/-- The call answered v, and the assertions hold. -/
def Ret (e : Env) (v : Value) (A : List HP) : Ending → World → Prop := fun en w' => en = .returned v ∧ Holds e w' A
def RetEx {α : Type} (e : Env) (v : α → Value) (A : α → List HP) : Ending → World → Prop := fun en w' => ∃ x, en = .returned (v x) ∧ Holds e w' (A x)
/-- The call answered v, and has drawn at most. -/
def Quiet (w : World) (v : Value) : Ending → World → Prop := fun en w' => en = .returned v ∧ ∃ n, w' = w.drewN n

theorem retQ {P : Program} {f : FuncId} {args : Array Value} {e : Env} {w : World} {v : Value} {A : List HP} (h : Calls P f args w (Quiet w v)) (H : Holds e w A) : Calls P f args w (Ret e v A) :=
  h.mono fun _ _ ⟨h1, n, h2⟩ => ⟨h1, by rw [h2]; exact H.drewN n⟩
theorem retC {P : Program} {f : FuncId} {args : Array Value} {e : Env} {w : World} {v : Value} {A B : List HP} (h : Calls P f args w (Ret e v A)) (hB : ∀ w', Holds e w' A → Holds e w' B) : Calls P f args w (Ret e v B) :=
  h.mono fun _ _ ⟨h1, h2⟩ => ⟨h1, hB _ h2⟩

/-- A region that draws its order, whose operations read and whose calls keep the assertions: one walk in the order of the text. -/
theorem wp_region_holds {P : Program} {I : Type} {W : I → World} {e : Env} {A : List HP} {id : Nat} {Q : Exit → Act → World → Prop} {a : Act} {w : World} {l : List Oper}
    (hWs : ∀ w', Holds e w' A → ∃ i, w' = W i) (H : Holds e w A) (hm : P.follows .mixedOrders = true) (hB : Region.lexB .any l.toArray = true)
    (h : wpQuiet P l.toArray (fun w' => ∃ i, w' = W i) (fun a' => ∀ w', (∃ i, w' = W i) → Q .normal a' w') l a) : (Code.region id l.toArray true).wp P Q a w :=
  wp_region_quiet (C := fun w' => ∃ i, w' = W i) hm hB (hWs _ (H.drawn _)) (by simpa using h)

theorem worlds_of {e : Env} {A : List HP} {w : World} (H : Holds e w A) : ∃ (I : Type) (W : I → World), Nonempty I ∧ (∀ i, Holds e (W i) A) ∧ (∀ w', Holds e w' A → ∃ i, w' = W i) :=
  ⟨{ w // Holds e w A }, Subtype.val, ⟨⟨w, H⟩⟩, fun i => i.2, fun w h => ⟨⟨w, h⟩, rfl⟩⟩

theorem quietH {P : Program} {f : FuncId} {args : Array Value} {e : Env} {A : List HP} {v : Value} {I : Type} {W : I → World} {w : World} (h : Calls P f args w (Ret e v A)) (hWs : ∀ w', Holds e w' A → ∃ i, w' = W i) :
    Calls P f args w (fun en w'' => en = .returned v ∧ ∃ m, w'' = W m) :=
  h.mono fun _ _ ⟨h1, h2⟩ => ⟨h1, hWs _ h2⟩

theorem quietQ {P : Program} {f : FuncId} {args : Array Value} {e : Env} {A : List HP} {v : Value} {I : Type} {W : I → World} {w : World} (h : Calls P f args w (Quiet w v)) (H : Holds e w A) (hWs : ∀ w', Holds e w' A → ∃ i, w' = W i) :
    Calls P f args w (fun en w'' => en = .returned v ∧ ∃ m, w'' = W m) := quietH (retQ h H) hWs

theorem Holds.swap {e : Env} {w : World} {X Y : HP} {A : List HP} (h : Holds e w (X :: Y :: A)) : Holds e w (Y :: X :: A) := h.take (Take.there _ (Take.here _ _))

/-- The world behind a variable again: what is known of it is what it holds. -/
theorem bodyPost_at {P : Program} {fn : Func} {Q : Ending → World → Prop} {ex : Exit} {a : Act} {e : Env} {w : World} {A : List HP} (H : Holds e w A) (h : ∀ w', Holds e w' A → bodyPost P fn Q ex a w') : bodyPost P fn Q ex a w := h w H
theorem code_at {P : Program} {c : Code} {Q : Exit → Act → World → Prop} {a : Act} {e : Env} {w : World} {A : List HP} (H : Holds e w A) (h : ∀ w', Holds e w' A → c.wp P Q a w') : c.wp P Q a w := h w H
theorem calls_at {P : Program} {f : FuncId} {args : Array Value} {Q : Ending → World → Prop} {e : Env} {w : World} {A : List HP} (H : Holds e w A) (h : ∀ w', Holds e w' A → Calls P f args w' Q) : Calls P f args w Q := h w H

end Go.Proofs.Ytjbphdjheklhbaa
