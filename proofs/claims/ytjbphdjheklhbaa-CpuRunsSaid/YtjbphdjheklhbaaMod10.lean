/-
  Package model: Does of ops that write; of one op that reads.
-/
import Derived.Test.YtjbphdjheklhbaaMod9
namespace Go.Proofs.Ytjbphdjheklhbaa
open Go.RowKit

/-- The pages behind ops, one by one; the blocks of new pages. -/
def runP (M : List Pg) : List OpS → List (Nat × Nat) → List Pg
  | o :: L, p :: ps => runP (opP M o p) L ps
  | _, _ => M
def ansC (E : Int) : List Value := [.int .i64 E, .int .i64 0, .slice none 0 0]
/-- The answers. -/
def runA (M : List Pg) : List OpS → List (Nat × Nat) → List Value
  | o :: L, p :: ps => ansC (opE M o) ++ runA (opP M o p) L ps
  | _, _ => []
theorem run_snoc (M : List Pg) (L : List OpS) (ps : List (Nat × Nat)) (h : L.length = ps.length) (o : OpS) (p : Nat × Nat) :
    runP M (L ++ [o]) (ps ++ [p]) = opP (runP M L ps) o p ∧ runA M (L ++ [o]) (ps ++ [p]) = runA M L ps ++ ansC (opE (runP M L ps) o) := by
  induction L generalizing M ps with
  | nil =>
    cases ps with
    | nil => exact ⟨rfl, by simp [runA, runP]⟩
    | cons p ps => simp at h
  | cons x L ih =>
    cases ps with
    | nil => simp at h
    | cons q ps =>
      obtain ⟨h1, h2⟩ := ih (opP M x q) ps (by simpa using h)
      exact ⟨h1, by simp only [List.cons_append, runA, runP]; rw [h2, List.append_assoc]⟩
/-- A write. -/
def OpS.wr (o : OpS) : Prop := o.kind = 0 ∨ o.kind = 2 ∨ o.kind = 4

section
variable {e : Env} {w : World} {R : List HP} {m : Nat} {M : List Pg}
theorem doesW (o : OpS) (hk : o.wr) (hO : OpOk e R o) (H : Holds e w (modH m M :: R)) :
    Calls Try.prog 44 #[.pointer (some ⟨m, 0, none⟩), o.val] w
      (RetEx e (fun _ : Nat × Nat => ansVal (opE M o) (.slice none 0 0)) (fun p => modH m (opP M o p) :: R)) := by
  rcases hk with hk | hk | hk
  · have e1 : opE M o = mapE M o.a o.perm := by unfold opE; rw [if_pos hk]
    have e2 : ∀ p, opP M o p = mapP M o.a o.perm p := fun p => by unfold opP; rw [if_pos hk]
    rw [e1, show (fun p => modH m (opP M o p) :: R) = fun p => modH m (mapP M o.a o.perm p) :: R by funext p; rw [e2]]
    exact doesMap o hk hO H
  · have e1 : opE M o = proE M o.a o.perm := by unfold opE; rw [if_neg (by omega), if_pos hk]
    have e2 : ∀ p, opP M o p = proP M o.a o.perm := fun p => by unfold opP; rw [if_neg (by omega), if_pos hk]
    rw [e1, show (fun p => modH m (opP M o p) :: R) = fun _ => modH m (proP M o.a o.perm) :: R by funext p; rw [e2]]
    exact doesPro o hk hO H
  · have e1 : opE M o = chk M o.a o.ds.length 2 := by unfold opE; rw [if_neg (by omega), if_neg (by omega)]
    have e2 : ∀ p, opP M o p = stoP M o.a o.ds := fun p => by unfold opP; rw [if_neg (by omega), if_neg (by omega)]
    rw [e1, show (fun p => modH m (opP M o p) :: R) = fun _ => modH m (stoP M o.a o.ds) :: R by funext p; rw [e2]]
    exact doesSto o hk hO H

theorem modDoes (L : List OpS) (hL : L.length ≤ 1000) (v : Value) (hv : ∀ w', Holds e w' R → Reads w' v 5 L.length (L.flatMap OpS.cells)) (hk : ∀ o ∈ L, o.wr) (hO : ∀ o ∈ L, OpOk e R o) (H : Holds e w (modH m M :: R)) :
    Calls Try.prog 10 #[.pointer (some ⟨m, 0, none⟩), v] w
      (RetEx e (fun x : Value × List (Nat × Nat) => x.1) (fun x => pur (x.2.length = L.length) :: row x.1 104 3 L.length (runA M L x.2) :: modH m (runP M L x.2) :: R)) := by
  refine (modDoesL (A := fun t : List (Nat × Nat) => modH m (runP M (L.take t.length) t)) (Good := fun k t ans => t.length = k ∧ ans = runA M (L.take k) t) L hL v hv [] ⟨rfl, by cases L <;> rfl⟩ ?_ ?_ (by simpa [runP] using H)).mono ?_
  · intro k o ho
    obtain ⟨ad, c, h⟩ := ((hO o (List.mem_of_getElem? ho)).rd w H.drop).shape
    exact ⟨ad, _, c, h⟩
  · rintro k o ho t ans ⟨rfl, rfl⟩ X hX w' h
    have hok := hO o (List.mem_of_getElem? ho)
    refine (doesW o (hk o (List.mem_of_getElem? ho)) ⟨hok.a, fun w'' g => hok.rd w'' (hX _ g), hok.len⟩ h).mono ?_
    rintro en w1 ⟨p, rfl, h1⟩
    have e1 : L.take (t.length + 1) = L.take t.length ++ [o] := by rw [List.take_add_one, ho]; rfl
    have hlt : t.length < L.length := (List.getElem?_eq_some_iff.1 ho).1
    obtain ⟨h2, h3⟩ := run_snoc M (L.take t.length) t (by rw [List.length_take]; omega) o p
    refine ⟨t ++ [p], _, none, 0, 0, rfl, ⟨by simp, ?_⟩, ?_⟩
    · rw [e1, h3]; rfl
    · rw [List.length_append, List.length_singleton, e1, h2]
      exact h1
  · rintro en w1 ⟨v', t, ans, rfl, ⟨ht, rfl⟩, h1⟩
    rw [ht, List.take_length] at h1
    exact ⟨(v', t), rfl, Holds.mkPur ht h1⟩

theorem modDo1 (o : OpS) (v : Value) (hv : ∀ w', Holds e w' R → Reads w' v 5 1 o.cells) (hk : o.wr) (hO : OpOk e R o) (H : Holds e w (modH m M :: R)) :
    Calls Try.prog 10 #[.pointer (some ⟨m, 0, none⟩), v] w
      (RetEx e (fun x : Value × (Nat × Nat) => x.1) (fun x => row x.1 104 3 1 (ansC (opE M o)) :: modH m (opP M o x.2) :: R)) := by
  refine (modDoes [o] (by simp) v (by simpa using hv) (by simpa using hk) (by simpa using hO) H).mono ?_
  rintro en w1 ⟨⟨v', ps⟩, rfl, h⟩
  have hp := h.purE
  have h1 := h.drop
  match ps, hp with
  | [p], _ => exact ⟨(v', p), rfl, by simpa [runA, runP] using h1⟩

theorem modDo1R (o : OpS) (u : Nat) (hk : o.kind = 3 ∧ u = 1 ∨ o.kind = 5 ∧ u = 4) (hn0 : -9223372036854775808 ≤ o.n) (hn1 : o.n ≤ 9223372036854775807) (v : Value) (hv : ∀ w', Holds e w' R → Reads w' v 5 1 o.cells) (hO : OpOk e R o) (H : Holds e w (modH m M :: R)) :
    Calls Try.prog 10 #[.pointer (some ⟨m, 0, none⟩), v] w
      (RetEx e (fun x : Value × Value => x.1) (fun x => row x.1 104 3 1 [.int .i64 (chk M o.a o.n u), .int .i64 0, x.2] :: bts x.2 (rdE M o.a o.n u) :: modH m M :: R)) := by
  have hd : ∀ {w'} {X : List HP}, OpOk e X o → Holds e w' (modH m M :: X) → Calls Try.prog 44 #[.pointer (some ⟨m, 0, none⟩), o.val] w'
      (RetEx e (fun v : Value => ansVal (chk M o.a o.n u) v) (fun v => bts v (rdE M o.a o.n u) :: modH m M :: X)) := fun {w'} {X} hO' h => by
    rcases hk with ⟨h1, rfl⟩ | ⟨h1, rfl⟩
    · exact doesRd3 o h1 hn0 hn1 hO' h
    · exact doesRd5 o h1 hn0 hn1 hO' h
  refine (modDoesL (A := fun t : Option Value => match t with | none => modH m M | some d => grp [bts d (rdE M o.a o.n u), modH m M])
    (Good := fun k t ans => (k = 0 ∧ t = none ∧ ans = []) ∨ (k = 1 ∧ ∃ d, t = some d ∧ ans = [.int .i64 (chk M o.a o.n u), .int .i64 0, d])) [o] (by simp) v (by simpa using hv) none (.inl ⟨rfl, rfl, rfl⟩) ?_ ?_ H).mono ?_
  · intro k o' ho
    have : o' = o := by simpa using List.mem_of_getElem? ho
    subst this
    obtain ⟨ad, c, h⟩ := (hO.rd w H.drop).shape
    exact ⟨ad, _, c, h⟩
  · rintro k o' ho t ans hg X hX w' h
    have ho' : o' = o := by simpa using List.mem_of_getElem? ho
    subst ho'
    have hk0 : k = 0 := by have := (List.getElem?_eq_some_iff.1 ho).1; simpa using this
    subst hk0
    rcases hg with ⟨_, rfl, rfl⟩ | ⟨h1, _⟩
    · refine (hd ⟨hO.a, fun w'' g => hO.rd w'' (hX _ g), hO.len⟩ h).mono ?_
      rintro en w1 ⟨d, rfl, h1⟩
      obtain ⟨av, cv, hdv⟩ := (bts.reads h1).shape
      refine ⟨some d, chk M o'.a o'.n u, av, _, cv, by rw [← hdv], .inr ⟨rfl, d, rfl, by rw [← hdv]; rfl⟩, Holds.mkGrp (L := [bts _ _, modH _ _]) h1⟩
    · omega
  · rintro en w1 ⟨v', t, ans, rfl, hg, h1⟩
    rcases hg with ⟨h2, _, _⟩ | ⟨_, d, rfl, rfl⟩
    · simp at h2
    · exact ⟨(v', d), rfl, (Holds.ungrp (L := [bts d _, modH m M]) h1.swap).re 3 [2, 0, 1]⟩
end
end Go.Proofs.Ytjbphdjheklhbaa
