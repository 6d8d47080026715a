/-
  A region that draws its order, whose operations read (and whose calls keep the assertions), but for the last one, which waits for all others: one walk in the order of the text. No program in sight.
-/
import Derived.Test.YtjbphdjheklhbaaSL
import Derived.Deep.QuietTactic
namespace Go.Proofs.Ytjbphdjheklhbaa
open Go.RowKit

/-- The last operation waits for all others; each waits for such as stand ahead of it. -/
def lastB (md : Region.Mode) (ops : Array Oper) (n : Nat) : Bool :=
  decide (ops.size = n + 1) && Region.noSelect ops && Region.lexFrom md ops n 0 ((Array.replicate (n + 1) false).setIfInBounds n true) &&
  ((List.range (n + 1)).all fun i => match ops[i]? with
    | some o => o.after.all fun e => !Region.binds md e || decide (e.on < i)
    | none => true) &&
  (List.range n).all fun j => (List.range (n + 1)).any fun k => match ops[k]? with
    | some o => o.after.any fun e => Region.binds md e && (e.on == j)
    | none => false

section
variable {P : Program} {ops : Array Oper} {md : Region.Mode} {C : World → Prop}
theorem ready_some {n : Nat} (hsz : ops.size = n + 1) (hed : ∀ (i : Nat) (o : Oper), ops[i]? = some o → ∀ e ∈ o.after, Region.binds md e = true → e.on < i) {listed : Array Bool} (hl : listed.size = n + 1) (hun : listed.getD n true = false) : Region.ready md ops listed ≠ [] := by
  have key : ∀ k, k ≤ n + 1 → (∀ j, j < k → listed.getD j true = true) ∨ ∃ i, i ∈ Region.ready md ops listed := by
    intro k
    induction k with
    | zero => intro _; exact .inl fun j hj => by omega
    | succ k ih =>
      intro hk
      rcases ih (by omega) with h | h
      · by_cases hkl : listed.getD k true = true
        · refine .inl fun j hj => ?_
          rcases Nat.lt_succ_iff_lt_or_eq.1 hj with h' | rfl
          · exact h j h'
          · exact hkl
        · obtain ⟨o, ho⟩ : ∃ o, ops[k]? = some o := ⟨_, Array.getElem?_eq_getElem (by omega)⟩
          refine .inr ⟨k, mem_ready.2 ⟨by simpa using hkl, o, ho, fun e he hb => ?_⟩⟩
          have h1 := hed k o ho e he hb
          have h2 := h e.on h1
          have h3 : e.on < listed.size := by omega
          simp [h3] at h2 ⊢
          exact h2
      · exact .inr h
  intro h0
  rcases key (n + 1) (Nat.le_refl _) with h | ⟨i, hi⟩
  · rw [h n (by omega)] at hun; cases hun
  · rw [h0] at hi; cases hi
/-- Whatever has come up, all that it waits for has. -/
def Down (md : Region.Mode) (ops : Array Oper) (listed : Array Bool) (n : Nat) : Prop := ∀ (j : Nat) (o : Oper), j < n → listed.getD j false = true → ops[j]? = some o → ∀ e ∈ o.after, Region.binds md e = true → listed.getD e.on false = true
theorem ready_none {n : Nat} (hsz : ops.size = n + 1) (hed : ∀ (i : Nat) (o : Oper), ops[i]? = some o → ∀ e ∈ o.after, Region.binds md e = true → e.on < i) (hlast : ∀ j, j < n → ∃ (k : Nat) (o : Oper), ops[k]? = some o ∧ ∃ e ∈ o.after, Region.binds md e = true ∧ e.on = j) {listed : Array Bool} (hl : listed.size = n + 1) (hd : Down md ops listed n) (hn : n ∈ Region.ready md ops listed) : Region.ready md ops (listed.setIfInBounds n true) = [] := by
  obtain ⟨_, s, hs, hall⟩ := mem_ready.1 hn
  have key : ∀ d j, j < n → n - j ≤ d → listed.getD j false = true := by
    intro d
    induction d with
    | zero => intro j hj hd; omega
    | succ d ih =>
      intro j hj hdj
      obtain ⟨k, o, ho, e, he, hb, hej⟩ := hlast j hj
      have h1 := hed k o ho e he hb
      have hk := (Array.getElem?_eq_some_iff.1 ho).1
      by_cases hkn : k = n
      · subst hkn
        rw [hs] at ho
        cases ho
        have := hall e he hb
        rwa [hej] at this
      · have := hd k o (by omega) (ih k (by omega) (by omega)) ho e he hb
        rwa [hej] at this
  rw [List.eq_nil_iff_forall_not_mem]
  intro j hj
  obtain ⟨h0, o, ho, _⟩ := mem_ready.1 hj
  have hjl := (Array.getElem?_eq_some_iff.1 ho).1
  by_cases hjn : n = j
  · subst hjn
    simp [hl] at h0
  · rw [getD_set_ne true hjn] at h0
    have h1 := key n j (by omega) (by omega)
    have h3 : j < listed.size := by omega
    simp [h3] at h0 h1
    rw [h0] at h1
    cases h1
theorem Down.step {n i : Nat} {listed : Array Bool} (hd : Down md ops listed n) (hi : i ∈ Region.ready md ops listed) : Down md ops (listed.setIfInBounds i true) n := by
  intro j o hj hjl ho e he hb
  refine getD_set_true ?_
  by_cases hij : i = j
  · subst hij
    obtain ⟨_, o', ho', hall⟩ := mem_ready.1 hi
    rw [ho] at ho'
    cases ho'
    exact hall e he hb
  · rw [getD_set_ne false hij] at hjl
    exact hd j o hj hjl ho e he hb
theorem wpAny_last {n : Nat} {Q0 : Act → Prop} {Q : Exit → Act → World → Prop} (hsz : ops.size = n + 1) (hed : ∀ (i : Nat) (o : Oper), ops[i]? = some o → ∀ e ∈ o.after, Region.binds md e = true → e.on < i)
    (hlast : ∀ j, j < n → ∃ (k : Nat) (o : Oper), ops[k]? = some o ∧ ∃ e ∈ o.after, Region.binds md e = true ∧ e.on = j) (hQ : ∀ a w, C w → Q0 a → wpOp P ops Q n (fun a w => Q .normal a w) a w) :
    ∀ (fuel : Nat) (listed : Array Bool) (a : Act) (w : World), listed.size = n + 1 → Down md ops listed n → listed.getD n true = false → C w → wpAnyQ P md ops C Q0 fuel (listed.setIfInBounds n true) a → wpAny P md ops Q (fuel + 1) listed a w := by
  intro fuel
  induction fuel with
  | zero =>
    intro listed a w hl hdn hun hC h
    refine ⟨fun h0 => absurd h0 (ready_some hsz hed hl hun), fun i hi => ?_⟩
    by_cases hin : i = n
    · subst hin
      have hr := ready_none hsz hed hlast hl hdn hi
      exact wpOp_mono (fun a w hq => ⟨hr, hq⟩) (hQ a w hC h.2)
    · have := ready_mono hi hin
      rw [h.1] at this
      cases this
  | succ fuel ih =>
    intro listed a w hl hdn hun hC h
    refine ⟨fun h0 => absurd h0 (ready_some hsz hed hl hun), fun i hi => ?_⟩
    by_cases hin : i = n
    · subst hin
      have hr := ready_none hsz hed hlast hl hdn hi
      exact wpOp_mono (fun a w hq => ⟨fun _ => hq, fun j hj => by rw [hr] at hj; cases hj⟩) (hQ a w hC (h.1 hr))
    · refine wpOp_of_qOp hC (fun a' w' hw' hk => ih (listed.setIfInBounds i true) a' w' (by simpa using hl) (hdn.step hi) ?_ hw' ?_) (h.2 i (ready_mono hi hin))
      · rw [getD_set_ne true hin]; exact hun
      · rw [Array.setIfInBounds_comm _ _ hin]
        exact hk
theorem wpAnyQ_lexPre {Q : Act → Prop} (hs : Region.noSelect ops = true) : ∀ (l : List Oper) (k : Nat) (listed : Array Bool) (a : Act), (∀ j, j < l.length → l[j]? = ops[k + j]?) →
    Region.lexFrom md ops l.length k listed = true → wpQuiet P ops C Q l a → wpAnyQ P md ops C Q l.length listed a
  | [], _, _, _, _, hB, h => ⟨by simpa [Region.lexFrom] using hB, h⟩
  | o :: l, k, listed, a, hl, hB, h => by
    have h0 : ops[k]? = some o := by simpa using (hl 0 (by simp)).symm
    simp only [List.length_cons, Region.lexFrom, Bool.and_eq_true] at hB
    obtain ⟨⟨hr, hf⟩, hB'⟩ := hB
    have hst : qOp P ops C k (wpQuiet P ops C Q l) a := by unfold qOp; simp only [h0]; exact h
    obtain ⟨v, hy, hK⟩ := yieldsIn_of_qOp h0 hst
    exact wpAnyQ_first h0 (Region.noSelect_spec hs) l.length listed a (Region.free_spec h0 hf) (by simpa using hr) hy
      (wpAnyQ_lexPre hs l (k + 1) _ _ (fun j hj => by have := hl (j + 1) (by simp; omega); simpa [Nat.add_assoc, Nat.add_comm 1 j] using this) hB' hK)
end

theorem wp_region_last {P : Program} {C : World → Prop} {id : Nat} {Q : Exit → Act → World → Prop} {a : Act} {w : World} {l : List Oper} {s : Oper} (hs : l.getLast? = some s) (hm : P.follows .mixedOrders = true) (hB : lastB .any l.toArray (l.length - 1) = true) (hg : s.guard = none)
    (hC : C { w with drawn := w.drawn + 1 })
    (h : wpQuiet P l.toArray C (fun a' => ∀ w', C w' → s.wp P a' w' (fun a w => Q .normal a w) Q) l.dropLast a) : (Code.region id l.toArray true).wp P Q a w := by
  have hl : l = l.dropLast ++ [s] := by
    rw [List.getLast?_eq_some_iff] at hs
    obtain ⟨ys, rfl⟩ := hs
    simp
  have hlen : l.length = l.dropLast.length + 1 := by
    have := congrArg List.length hl
    rw [List.length_append, List.length_singleton] at this
    exact this
  have hne : l.length - 1 = l.dropLast.length := by omega
  rw [hne] at hB
  generalize hp : l.dropLast = pre at *
  unfold lastB at hB
  simp only [Bool.and_eq_true, decide_eq_true_eq] at hB
  obtain ⟨⟨⟨⟨b1, b2⟩, b3⟩, b4⟩, b5⟩ := hB
  have hsn : l.toArray[pre.length]? = some s := by
    rw [hl]; simp
  refine wp_region_any hm ?_
  have hsz2 : l.toArray.size = pre.length + 1 := b1
  rw [hsz2]
  refine wpAny_last (C := C) (Q0 := fun a' => ∀ w', C w' → s.wp P a' w' (fun a w => Q .normal a w) Q) b1 ?_ ?_ ?_ pre.length _ a _ (by simp) (fun j o hj hjl => by simp [show j < pre.length + 1 by omega] at hjl) (by simp) hC ?_
  · intro i o ho e he hb
    have hi : i < pre.length + 1 := by have := (Array.getElem?_eq_some_iff.1 ho).1; omega
    have h1 := List.all_eq_true.1 b4 i (List.mem_range.2 hi)
    rw [ho] at h1
    dsimp only at h1
    have h2 := Array.all_eq_true_iff_forall_mem.1 h1 e he
    simpa [hb] using h2
  · intro j hj
    have h1 := List.all_eq_true.1 b5 j (List.mem_range.2 hj)
    obtain ⟨k, _, h2⟩ := List.any_eq_true.1 h1
    cases hk : l.toArray[k]? with
    | none => rw [hk] at h2; cases h2
    | some o =>
      rw [hk] at h2
      dsimp only at h2
      obtain ⟨i, hi, h3⟩ := Array.any_eq_true.1 h2
      simp only [Bool.and_eq_true, beq_iff_eq] at h3
      exact ⟨k, o, hk, _, Array.getElem_mem hi, h3.1, h3.2⟩
  · intro a' w' hw' hq
    unfold wpOp
    rw [hsn]
    dsimp only
    have hw : Region.wanted s (yielded l.toArray a'.tmps) = true := by simp [Region.wanted, hg]
    rw [if_pos hw]
    exact .inl (hq w' hw')
  · exact wpAnyQ_lexPre b2 pre 0 _ a (fun j hj => by rw [hl]; simp [List.getElem?_append_left hj]) b3 h
end Go.Proofs.Ytjbphdjheklhbaa
