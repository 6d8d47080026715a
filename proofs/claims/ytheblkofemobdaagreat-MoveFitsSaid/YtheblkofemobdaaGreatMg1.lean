import Derived.Test.YtheblkofemobdaaGreatMg0
import Derived.OrdersIn
import Derived.RangeFuncCalls
import Derived.Deep.Quiet
import Derived.Deep.RegionHeld3
import Derived.Maps.Own
import Derived.Maps.OwnSet
import Derived.Lib.SlKeysI
import Derived.Test.YtheblkofemobdaaGreatLay
import Derived.Sort.OwnSortedInts
import Derived.Shelf.Slices.In.SortNone
import Derived.Shelf.SlIterI.Sorted
/-
  Regions that draw their order, walked in a round's frame: (1) all of whose operations are quiet; (2) that hold one call behind which all else waits, and which waits for all that stands before it.
-/
namespace Go.Proofs.YtheblkofemobdaaGreat
open Go.RowKit

def noDefer (o : Oper) : Bool := match o.op with | .defer _ => false | _ => true
theorem noDefer_ne {o : Oper} (h : noDefer o = true) : ∀ c, o.op ≠ .defer c := fun c e => by simp [noDefer, e] at h

section
variable {P : Program} {ops : Array Oper} {C : World → Prop} {l n : Nat} {Q' : Exit → Act → World → Prop}

theorem op_round {o : Oper} {a : Act} {K : Act → Prop} {K' : Act → World → Prop} {w : World} (hd : noDefer o = true) (hw : C w) (h : ∀ a w', C w' → K a → K' a w') (hh : o.quiet P a C K) :
    o.wpIn (Fence.wide.inRound l) n P a w K' Q' := by
  obtain ⟨v, h1, h2⟩ := hh
  have h3 := h1 w hw
  refine ⟨fun _ _ => trivial, ?_⟩
  rw [Oper.semAt_eq _ _ _ (noDefer_ne hd)]
  unfold Oper.quietAt at h3
  cases hr : (execOp a.eval o).run P w with
  | halt x w' => rw [hr] at h3; exact h3.elim
  | ok x w' =>
    rw [hr] at h3
    cases x with
    | value u => obtain ⟨e1, e2⟩ := h3; rw [e1, e2]; exact h _ _ hw h2
    | skip => obtain ⟨e1, e2⟩ := h3; rw [e1]; rw [e2] at h2; exact h _ _ hw h2
    | enter f args =>
      obtain ⟨e1, hc⟩ := h3
      rw [e1]
      exact ⟨fun h => by simp [Fence.wide] at h, (CallsIn.inRound l (callsIn_wide.2 hc)).mono fun e w'' ⟨he, hw''⟩ => by subst he; exact h _ _ hw'' h2⟩
    | _ => exact h3.elim

theorem qOp_round {i : Nat} {a : Act} {K : Act → Prop} {K' : Act → World → Prop} {w : World} (hd : ∀ o ∈ ops, noDefer o = true) (hw : C w) (h : ∀ a w', C w' → K a → K' a w') (hh : qOp P ops C i K a) :
    wpOpIn (Fence.wide.inRound l) n P ops Q' i K' a w := by
  unfold qOp at hh
  unfold wpOpIn
  cases ho : ops[i]? with
  | none => rw [ho] at hh; exact h _ _ hw hh
  | some o =>
    rw [ho] at hh
    simp only at hh ⊢
    by_cases hwt : Region.wanted o (yielded ops a.tmps) = true
    · rw [if_pos hwt] at hh ⊢
      exact op_round (hd o (Array.mem_of_getElem? ho)) hw h hh
    · rw [if_neg hwt] at hh ⊢
      exact ⟨fun _ _ => trivial, h _ _ hw hh⟩

theorem any_round {Q : Act → Prop} (hd : ∀ o ∈ ops, noDefer o = true) (hQ : ∀ a w, C w → Q a → Q' .normal a w) : ∀ (fuel : Nat) (listed : Array Bool) (a : Act) (w : World), C w →
    wpAnyQ P .any ops C Q fuel listed a → wpAnyIn (Fence.wide.inRound l) n P .any ops Q' fuel listed a w
  | 0, _, _, _, hw, h => ⟨h.1, hQ _ _ hw h.2⟩
  | fuel + 1, _, _, _, hw, h => ⟨fun h0 => hQ _ _ hw (h.1 h0), fun i hi => qOp_round hd hw (fun a' w' hw' hk => any_round hd hQ fuel _ a' w' hw' hk) (h.2 i hi)⟩

/-- A quiet region in a round. -/
theorem wpIn_region_round {id : Nat} {a : Act} {w : World} (hm : P.follows .mixedOrders = true) (hB : Region.lexB .any ops = true) (hd : ops.all noDefer = true) (hC : C { w with drawn := w.drawn + 1 })
    (h : wpQuiet P ops C (fun a' => ∀ w', C w' → Q' .normal a' w') ops.toList a) : (Code.region id ops true).wpIn (Fence.wide.inRound l) n P Q' a w := by
  simp only [Region.lexB, Bool.and_eq_true] at hB
  have hd' : ∀ o ∈ ops, noDefer o = true := fun o ho => Array.all_eq_true_iff_forall_mem.1 hd o ho
  refine wpIn_region_any hm (any_round (C := C) (Q := fun a' => ∀ w', C w' → Q' .normal a' w') hd' (fun _ w' hw' h => h w' hw') _ _ _ _ hC ?_)
  have := wpAnyQ_lex (P := P) (C := C) (md := .any) hB.1 ops.toList 0 (Array.replicate ops.size false) a (by simp) (by simpa using hB.2) h
  simpa using this
end

theorem wpIn_region_holds_round {P : Program} {I : Type} {W : I → World} {e : Env} {A : List HP} {id k n : Nat} {Q : Exit → Act → World → Prop} {a : Act} {w : World} {l : List Oper}
    (hWs : ∀ w', Holds e w' A → ∃ i, w' = W i) (H : Holds e w A) (hm : P.follows .mixedOrders = true) (hB : Region.lexB .any l.toArray = true) (hd : l.toArray.all noDefer = true)
    (h : wpQuiet P l.toArray (fun w' => ∃ i, w' = W i) (fun a' => ∀ w', (∃ i, w' = W i) → Q .normal a' w') l a) : (Code.region id l.toArray true).wpIn (Fence.wide.inRound k) n P Q a w :=
  wpIn_region_round (C := fun w' => ∃ i, w' = W i) hm hB hd (hWs _ (H.drawn _)) (by simpa using h)

/-! ### One call in the midst -/

/-- All operations ahead of c lead to it, all behind it wait for it; edges lead forward; no guards, no defer. -/
def oneCall (ops : Array Oper) (c : Nat) : Bool :=
  (List.range ops.size).all fun j => match ops[j]? with
    | none => true
    | some o => noDefer o && o.guard.isNone && (o.after.all fun e => !Region.binds .any e || decide (e.on < j)) &&
      (if j < c then (List.range (c + 1)).any fun k => decide (j < k) && (match ops[k]? with | some o' => o'.after.any (fun e => Region.binds .any e && e.on == j) | none => false)
       else if j = c then true else o.after.any fun e => Region.binds .any e && decide (c ≤ e.on))

structure OneCall (ops : Array Oper) (c : Nat) : Prop where
  nd : ∀ o ∈ ops, noDefer o = true
  ng : ∀ (j : Nat) (o : Oper), ops[j]? = some o → o.guard = none
  fw : ∀ (j : Nat) (o : Oper), ops[j]? = some o → ∀ e ∈ o.after, Region.binds .any e = true → e.on < j
  up : ∀ j, j < c → j < ops.size → ∃ (k : Nat) (o : Oper), j < k ∧ k ≤ c ∧ ops[k]? = some o ∧ ∃ e ∈ o.after, Region.binds .any e = true ∧ e.on = j
  dn : ∀ (j : Nat) (o : Oper), c < j → ops[j]? = some o → ∃ e ∈ o.after, Region.binds .any e = true ∧ c ≤ e.on

theorem oneCall_spec {ops : Array Oper} {c : Nat} (h : oneCall ops c = true) : OneCall ops c := by
  have each : ∀ j o, ops[j]? = some o → (noDefer o = true ∧ o.guard = none ∧ (∀ e ∈ o.after, Region.binds .any e = true → e.on < j)) ∧
      (if j < c then (List.range (c + 1)).any (fun k => decide (j < k) && (match ops[k]? with | some o' => o'.after.any (fun e => Region.binds .any e && e.on == j) | none => false))
       else if j = c then true else o.after.any fun e => Region.binds .any e && decide (c ≤ e.on)) = true := by
    intro j o ho
    have hj : j < ops.size := (Array.getElem?_eq_some_iff.1 ho).1
    have h1 := List.all_eq_true.1 h j (List.mem_range.2 hj)
    simp only [ho, Bool.and_eq_true] at h1
    obtain ⟨⟨⟨h1, h2⟩, h3⟩, h4⟩ := h1
    refine ⟨⟨h1, by simpa using h2, fun e he hb => ?_⟩, h4⟩
    have := Array.all_eq_true_iff_forall_mem.1 h3 e he
    simpa [hb] using this
  refine ⟨fun o ho => ?_, fun j o ho => (each j o ho).1.2.1, fun j o ho => (each j o ho).1.2.2, fun j hj hs => ?_, fun j o hj ho => ?_⟩
  · obtain ⟨i, hi, rfl⟩ := Array.getElem_of_mem ho
    exact (each i _ (Array.getElem?_eq_getElem hi)).1.1
  · have h2 := (each j _ (Array.getElem?_eq_getElem hs)).2
    rw [if_pos hj] at h2
    obtain ⟨k, hk, h3⟩ := List.any_eq_true.1 h2
    simp only [Bool.and_eq_true, decide_eq_true_eq] at h3
    cases ho : ops[k]? with
    | none => simp [ho] at h3
    | some o =>
      simp only [ho] at h3
      obtain ⟨e, he, h4⟩ := Array.any_eq_true'.1 h3.2
      simp only [Bool.and_eq_true, beq_iff_eq] at h4
      exact ⟨k, o, h3.1, by have := List.mem_range.1 hk; omega, ho, e, he, h4.1, h4.2⟩
  · have h2 := (each j o ho).2
    rw [if_neg (by omega), if_neg (by omega)] at h2
    obtain ⟨e, he, h4⟩ := Array.any_eq_true'.1 h2
    simp only [Bool.and_eq_true, decide_eq_true_eq] at h4
    exact ⟨e, he, h4.1, h4.2⟩

section
variable {P : Program} {ops : Array Oper} {C : World → Prop} {l n c : Nat} {Q' : Exit → Act → World → Prop}

/-- What is listed is listed with all that it waits for; nothing from c on. -/
structure Pre (ops : Array Oper) (c : Nat) (listed : Array Bool) : Prop where
  sz : listed.size = ops.size
  dc : ∀ (j : Nat) (o : Oper), ops[j]? = some o → listed.getD j false = true → ∀ e ∈ o.after, Region.binds .any e = true → listed.getD e.on false = true
  hi : ∀ j, c ≤ j → listed.getD j false = false

theorem getD_in {listed : Array Bool} {j : Nat} (h : j < listed.size) : listed.getD j true = listed.getD j false := by simp [h]
theorem Pre.all (ho : OneCall ops c) {listed : Array Bool} (hp : Pre ops c listed) (hc : c ∈ Region.ready .any ops listed) : ∀ j, j < c → listed.getD j false = true := by
  obtain ⟨_, oc, hoc, hall⟩ := mem_ready.1 hc
  have hcs : c < ops.size := (Array.getElem?_eq_some_iff.1 hoc).1
  have key : ∀ d j, c - j = d → j < c → listed.getD j false = true := by
    intro d
    induction d using Nat.strongRecOn with
    | ind d ih =>
      intro j hd hj
      obtain ⟨k, o, h1, h2, h3, e, he, hb, hon⟩ := ho.up j hj (by omega)
      subst hon
      rcases Nat.lt_or_eq_of_le h2 with h4 | rfl
      · exact hp.dc k o h3 (ih (c - k) (by omega) k rfl h4) e he hb
      · rw [hoc] at h3; cases h3; exact hall e he hb
  exact fun j hj => key _ j rfl hj
theorem Pre.lt (ho : OneCall ops c) {listed : Array Bool} (hp : Pre ops c listed) {j : Nat} (hj : j ∈ Region.ready .any ops listed) : j ≤ c := by
  apply Classical.byContradiction
  intro hn
  obtain ⟨_, o, hoj, hall⟩ := mem_ready.1 hj
  obtain ⟨e, he, hb, hce⟩ := ho.dn j o (by omega) hoj
  have := hall e he hb
  rw [hp.hi _ hce] at this
  cases this
theorem Pre.set {listed : Array Bool} (hp : Pre ops c listed) {i : Nat} (hi : i ∈ Region.ready .any ops listed) (hic : i < c) : Pre ops c (listed.setIfInBounds i true) := by
  obtain ⟨_, oi, hoi, hall⟩ := mem_ready.1 hi
  refine ⟨by simp [hp.sz], fun j o hj hl e he hb => ?_, fun j hj => ?_⟩
  · refine getD_set_true ?_
    by_cases hij : i = j
    · subst hij; rw [hoi] at hj; cases hj; exact hall e he hb
    · rw [Go.getD_set_ne false hij] at hl; exact hp.dc j o hj hl e he hb
  · rw [Go.getD_set_ne false (by omega)]; exact hp.hi j hj

/-- The operations ahead of c, by themselves: what is ready there is what is ready. -/
theorem ext_get (a : Array Bool) {c i : Nat} (hi : i < c) (d : Bool) (hc : c ≤ a.size) : (a.extract 0 c).getD i d = a.getD i d := by
  have h : (a.extract 0 c)[i]? = a[i]? := by rw [Array.getElem?_extract]; simp; omega
  simp only [Array.getD_eq_getD_getElem?, h]
theorem ext_set (a : Array Bool) {c i : Nat} (hi : i < c) : (a.setIfInBounds i true).extract 0 c = (a.extract 0 c).setIfInBounds i true := by
  apply Array.ext_getElem?
  intro j
  simp only [Array.getElem?_extract, Array.getElem?_setIfInBounds, Array.size_extract, Array.size_setIfInBounds]
  by_cases hj : i = j
  · subst hj
    by_cases hs : i < a.size
    · simp [hs]
    · simp [hs]; try omega
  · simp [hj]
theorem ready_pre (ho : OneCall ops c) (hcs : c < ops.size) {listed : Array Bool} {i : Nat} (hi : i < c) (hs : listed.size = ops.size) :
    i ∈ Region.ready .any ops listed ↔ i ∈ Region.ready .any (ops.extract 0 c) (listed.extract 0 c) := by
  rw [mem_ready, mem_ready]
  have e1 : (ops.extract 0 c)[i]? = ops[i]? := by rw [Array.getElem?_extract]; simp; omega
  rw [e1, ext_get listed hi true (by omega)]
  constructor
  · rintro ⟨h0, o, h1, h2⟩
    exact ⟨h0, o, h1, fun e he hb => by rw [ext_get listed (Nat.lt_trans (ho.fw i o h1 e he hb) hi) false (by omega)]; exact h2 e he hb⟩
  · rintro ⟨h0, o, h1, h2⟩
    exact ⟨h0, o, h1, fun e he hb => by rw [← ext_get listed (Nat.lt_trans (ho.fw i o h1 e he hb) hi) false (by omega)]; exact h2 e he hb⟩
/-- If something ahead of c is not listed yet, something of it may come up. -/
theorem pre_some (ho : OneCall ops c) (hcs : c < ops.size) {listed : Array Bool} (hs : listed.size = ops.size) : ∀ j, j < c → listed.getD j false = false → ∃ i, i < c ∧ i ∈ Region.ready .any ops listed := by
  intro j
  induction j using Nat.strongRecOn with
  | ind j ih =>
    intro hj hl
    obtain ⟨o, hoj⟩ : ∃ o, ops[j]? = some o := ⟨_, Array.getElem?_eq_getElem (by omega)⟩
    by_cases h : ∃ e ∈ o.after, Region.binds .any e = true ∧ listed.getD e.on false = false
    · obtain ⟨e, he, hb, hf⟩ := h
      have := ho.fw j o hoj e he hb
      exact ih e.on this (by omega) hf
    · refine ⟨j, hj, mem_ready.2 ⟨by rw [getD_in (by omega)]; exact hl, o, hoj, fun e he hb => ?_⟩⟩
      cases hf : listed.getD e.on false
      · exact absurd ⟨e, he, hb, hf⟩ h
      · rfl

theorem anyIn_more {F : Fence} : ∀ (fuel : Nat) (listed : Array Bool) (a : Act) (w : World), wpAnyIn F n P .any ops Q' fuel listed a w → wpAnyIn F n P .any ops Q' (fuel + 1) listed a w
  | 0, _, _, _, h => ⟨fun _ => h.2, fun i hi => by rw [h.1] at hi; cases hi⟩
  | fuel + 1, _, _, _, h => ⟨h.1, fun i hi => wpOpIn_mono (fun a w => anyIn_more fuel _ a w) (h.2 i hi)⟩
theorem anyIn_plus {F : Fence} (fuel k : Nat) (listed : Array Bool) (a : Act) (w : World) (h : wpAnyIn F n P .any ops Q' fuel listed a w) : wpAnyIn F n P .any ops Q' (k + fuel) listed a w := by
  induction k with
  | zero => rwa [Nat.zero_add]
  | succ k ih => rw [Nat.add_right_comm]; exact anyIn_more _ _ _ _ ih

theorem cut_round (ho : OneCall ops c) (hcs : c < ops.size) {Q1 : Act → Prop} {r : Nat}
    (K : ∀ a w, C w → Q1 a → ∀ listed : Array Bool, listed.size = ops.size → (∀ j, j < c → listed.getD j false = true) → (∀ j, c ≤ j → listed.getD j false = false) → wpAnyIn (Fence.wide.inRound l) n P .any ops Q' r listed a w) :
    ∀ (fuel : Nat) (listed : Array Bool) (a : Act) (w : World), Pre ops c listed → C w → wpAnyQ P .any (ops.extract 0 c) C Q1 fuel (listed.extract 0 c) a → wpAnyIn (Fence.wide.inRound l) n P .any ops Q' (fuel + r) listed a w := by
  intro fuel
  induction fuel with
  | zero =>
    intro listed a w hp hw h
    rw [Nat.zero_add]
    refine K a w hw h.2 listed hp.sz (fun j hj => ?_) hp.hi
    cases hl : listed.getD j false
    · obtain ⟨i, hi, hr⟩ := pre_some ho hcs hp.sz j hj hl
      have := (ready_pre ho hcs hi hp.sz).1 hr
      rw [h.1] at this
      cases this
    · rfl
  | succ fuel ih =>
    intro listed a w hp hw h
    by_cases hall : ∀ j, j < c → listed.getD j false = true
    · refine anyIn_plus r (fuel + 1) listed a w (K a w hw (h.1 ?_) listed hp.sz hall hp.hi)
      refine List.eq_nil_iff_forall_not_mem.2 fun i hi => ?_
      obtain ⟨h0, o, h1, _⟩ := mem_ready.1 hi
      have hic : i < c := by have := (Array.getElem?_eq_some_iff.1 h1).1; simp at this; omega
      rw [ext_get listed hic true (by rw [hp.sz]; omega), getD_in (by rw [hp.sz]; omega), hall i hic] at h0
      cases h0
    · obtain ⟨j, hj⟩ := Classical.not_forall.1 hall
      have hjc : j < c := Classical.byContradiction fun hn => hj fun hh => absurd hh hn
      have hlj : listed.getD j false = false := by
        cases hl : listed.getD j false
        · rfl
        · exact absurd (fun _ => hl) hj
      rw [Nat.add_right_comm]
      refine ⟨fun h0 => ?_, fun i hi => ?_⟩
      · obtain ⟨i, _, hr⟩ := pre_some ho hcs hp.sz j hjc hlj
        rw [h0] at hr
        cases hr
      · have hic : i < c := by
          rcases Nat.lt_or_eq_of_le (hp.lt ho hi) with h4 | rfl
          · exact h4
          · have := hp.all ho hi j hjc; rw [hlj] at this; cases this
        have hq := h.2 i ((ready_pre ho hcs hic hp.sz).1 hi)
        have e1 : (ops.extract 0 c)[i]? = ops[i]? := by rw [Array.getElem?_extract]; simp; omega
        unfold qOp at hq
        rw [e1] at hq
        unfold wpOpIn
        cases hoi : ops[i]? with
        | none => have := Array.getElem?_eq_getElem (xs := ops) (i := i) (by omega); rw [hoi] at this; cases this
        | some o =>
          rw [hoi] at hq
          have hwt : ∀ y, Region.wanted o y = true := fun y => by simp [Region.wanted, ho.ng i o hoi]
          simp only [hwt, if_true] at hq ⊢
          refine op_round (ho.nd o (Array.mem_of_getElem? hoi)) hw (fun a' w' hw' hk => ih _ a' w' (hp.set hi hic) hw' ?_) hq
          rw [ext_set listed hic]
          exact hk

def upTo (c m : Nat) : Array Bool := ((List.range m).map fun j => decide (j < c)).toArray
theorem upTo_eq {listed : Array Bool} {c m : Nat} (hs : listed.size = m) (h1 : ∀ j, j < c → listed.getD j false = true) (h2 : ∀ j, c ≤ j → listed.getD j false = false) : listed = upTo c m := by
  apply Array.ext_getElem?
  intro j
  by_cases hj : j < m
  · have e : listed[j]? = some (listed.getD j false) := by simp [hs, hj]
    rw [e]
    by_cases hjc : j < c
    · rw [h1 j hjc]; simp [upTo, hj, hjc]
    · rw [h2 j (by omega)]; simp [upTo, hj, hjc]
  · rw [Array.getElem?_eq_none (by omega), Array.getElem?_eq_none (by simp [upTo]; omega)]

/-- A region in a round that draws its order and holds one call, on which all behind it waits and which waits for all ahead of it. -/
theorem wpIn_region_call {id : Nat} {a : Act} {w : World} {oc : Oper} (hm : P.follows .mixedOrders = true) (c : Nat) (hc : oneCall ops c = true) (hoc : ops[c]? = some oc)
    (hr : Region.ready .any ops (upTo c ops.size) = [c]) (hB1 : Region.lexB .any (ops.extract 0 c) = true) (hns : Region.noSelect ops = true) (hB2 : Region.lexFrom .any ops (ops.size - (c + 1)) (c + 1) (upTo (c + 1) ops.size) = true)
    (hC : C { w with drawn := w.drawn + 1 })
    (h : wpQuiet P (ops.extract 0 c) C (fun a1 => ∀ w1, C w1 → oc.wpIn (Fence.wide.inRound l) n P a1 w1 (fun a2 w2 => ∃ C2 : World → Prop, C2 w2 ∧ wpQuiet P ops C2 (fun a3 => ∀ w3, C2 w3 → Q' .normal a3 w3) (ops.toList.drop (c + 1)) a2) Q') (ops.extract 0 c).toList a) :
    (Code.region id ops true).wpIn (Fence.wide.inRound l) n P Q' a w := by
  have ho := oneCall_spec hc
  have hcs : c < ops.size := (Array.getElem?_eq_some_iff.1 hoc).1
  refine wpIn_region_any hm ?_
  simp only [Region.lexB, Bool.and_eq_true] at hB1
  have hsz : (ops.extract 0 c).size = c := by simp; omega
  have hl1 := wpAnyQ_lex (P := P) (C := C) (md := .any) hB1.1 (ops.extract 0 c).toList 0 (Array.replicate (ops.extract 0 c).size false) a (fun j => by rw [Nat.zero_add, Array.getElem?_toList]) (by simpa using hB1.2) h
  have hp0 : Pre ops c (Array.replicate ops.size false) := by
    have h0 : ∀ j, (Array.replicate ops.size false).getD j false = false := fun j => by
      by_cases hj : j < ops.size
      · simp [hj]
      · simp [Array.getElem?_eq_none (show (Array.replicate ops.size false).size ≤ j by simp; omega)]
    exact ⟨by simp, fun j o _ hl => (by rw [h0] at hl; cases hl), fun j _ => h0 j⟩
  have he0 : (Array.replicate ops.size false).extract 0 c = Array.replicate (ops.extract 0 c).size false := by
    apply Array.ext_getElem?
    intro j
    rw [hsz, Array.getElem?_extract]
    by_cases hj : j < c
    · have : j < ops.size := by omega
      simp [hj, this]; try omega
    · simp [hj]; try omega
  have := cut_round (l := l) (n := n) (Q' := Q') (r := ops.size - c) ho hcs ?_ _ _ a _ hp0 hC (by rw [he0]; exact hl1)
  · rw [Array.length_toList, hsz, show c + (ops.size - c) = ops.size by omega] at this
    exact this
  · intro a1 w1 hw1 hq listed hs h1 h2
    rw [upTo_eq hs h1 h2, show ops.size - c = (ops.size - (c + 1)) + 1 by omega]
    refine ⟨fun h0 => by rw [hr] at h0; (cases h0), fun i hi => ?_⟩
    rw [hr] at hi
    simp at hi
    subst hi
    unfold wpOpIn
    rw [hoc]
    have hwt : ∀ y, Region.wanted oc y = true := fun y => by simp [Region.wanted, ho.ng i oc hoc]
    simp only [hwt, if_true]
    refine Oper.wpIn_mono (fun a2 w2 ⟨C2, hw2, hq2⟩ => ?_) (hq w1 hw1)
    have hset : (upTo i ops.size).setIfInBounds i true = upTo (i + 1) ops.size := by
      apply Array.ext_getElem?
      intro j
      rw [Array.getElem?_setIfInBounds]
      by_cases hj : i = j
      · subst hj; simp [upTo, hcs]
      · rw [if_neg hj]
        by_cases hj2 : j < ops.size
        · simp [upTo, hj2]; omega
        · rw [Array.getElem?_eq_none (by simp [upTo]; omega), Array.getElem?_eq_none (by simp [upTo]; omega)]
    rw [hset]
    have hl2 := wpAnyQ_lex (P := P) (C := C2) (md := .any) hns (ops.toList.drop (i + 1)) (i + 1) (upTo (i + 1) ops.size) a2 (fun j => by rw [List.getElem?_drop, Array.getElem?_toList]) (by simpa using hB2) hq2
    rw [List.length_drop, Array.length_toList] at hl2
    exact any_round (C := C2) ho.nd (fun _ w' hw' h => h w' hw') _ _ _ _ hw2 hl2

theorem wpQ_mono {C : World → Prop} : ∀ (ls' : List Oper) (a : Act) (Qa Qb : Act → Prop), (∀ a, Qa a → Qb a) → wpQuiet P ops C Qa ls' a → wpQuiet P ops C Qb ls' a := by
  intro ls'
  induction ls' with
  | nil => exact fun a Qa Qb hq h => hq a h
  | cons o rest ih =>
    intro a Qa Qb hq h
    unfold wpQuiet at h ⊢
    split
    · next hw => rw [if_pos hw] at h; exact Oper.quiet_mono (fun a h => ih a Qa Qb hq h) h
    · next hw => rw [if_neg hw] at h; exact ih _ Qa Qb hq h

theorem wpIn_region_call_holds {I : Type} {W : I → World} {e : Env} {A : List HP} {id : Nat} {a : Act} {w : World} {ls : List Oper} {oc : Oper} (c : Nat) (hWs : ∀ w', Holds e w' A → ∃ i, w' = W i) (H : Holds e w A) (hm : P.follows .mixedOrders = true)
    (hc : oneCall ls.toArray c = true) (hoc : ls[c]? = some oc)
    (hr : Region.ready .any ls.toArray (upTo c ls.length) = [c]) (hB1 : Region.lexB .any (ls.take c).toArray = true) (hns : Region.noSelect ls.toArray = true) (hB2 : Region.lexFrom .any ls.toArray (ls.length - (c + 1)) (c + 1) (upTo (c + 1) ls.length) = true)
    (h : wpQuiet P (ls.take c).toArray (fun w' => ∃ i, w' = W i) (fun a1 => ∀ w1, (∃ i, w1 = W i) → oc.wpIn (Fence.wide.inRound l) n P a1 w1 (fun a2 w2 => ∃ (A2 : List HP) (_ : Holds e w2 A2), ∀ (I2 : Type) (W2 : I2 → World), Nonempty I2 → (∀ i, Holds e (W2 i) A2) → wpQuiet P ls.toArray (fun w' => ∃ i, w' = W2 i) (fun a3 => ∀ i, Q' .normal a3 (W2 i)) (ls.drop (c + 1)) a2) Q') (ls.take c) a) :
    (Code.region id ls.toArray true).wpIn (Fence.wide.inRound l) n P Q' a w := by
  have hcs : c < ls.length := (List.getElem?_eq_some_iff.1 hoc).1
  have e1 : ls.toArray.extract 0 c = (ls.take c).toArray := by
    apply Array.ext_getElem?
    intro j
    rw [Array.getElem?_extract]
    simp only [List.size_toArray, List.getElem?_toArray, Nat.zero_add, Nat.sub_zero, List.getElem?_take]
    by_cases hj : j < c
    · rw [if_pos (by omega), if_pos hj]
    · rw [if_neg (by omega), if_neg hj]
  refine wpIn_region_call (C := fun w' => ∃ i, w' = W i) hm c hc (by rw [List.getElem?_toArray]; exact hoc) (by rw [List.size_toArray]; exact hr) (by rw [e1]; exact hB1) hns (by rw [List.size_toArray]; exact hB2) (hWs _ (H.drawn _)) ?_
  rw [e1]
  have h2 : ∀ a1 w1, (∀ w1, (∃ i, w1 = W i) → oc.wpIn (Fence.wide.inRound l) n P a1 w1 (fun a2 w2 => ∃ (A2 : List HP) (_ : Holds e w2 A2), ∀ (I2 : Type) (W2 : I2 → World), Nonempty I2 → (∀ i, Holds e (W2 i) A2) → wpQuiet P ls.toArray (fun w' => ∃ i, w' = W2 i) (fun a3 => ∀ i, Q' .normal a3 (W2 i)) (ls.drop (c + 1)) a2) Q') → (∃ i, w1 = W i) →
      oc.wpIn (Fence.wide.inRound l) n P a1 w1 (fun a2 w2 => ∃ C2 : World → Prop, C2 w2 ∧ wpQuiet P ls.toArray C2 (fun a3 => ∀ w3, C2 w3 → Q' .normal a3 w3) (ls.toArray.toList.drop (c + 1)) a2) Q' :=
    fun a1 w1 h1 hw1 => Oper.wpIn_mono (fun a2 w2 ⟨A2, hA, hq⟩ => by
        obtain ⟨I2, W2, hI, hW, hWs2⟩ := worlds_of hA
        exact ⟨fun w' => ∃ i, w' = W2 i, hWs2 _ hA, wpQ_mono _ _ _ _ (fun a3 h3 w3 ⟨i, hi⟩ => hi ▸ h3 i) (hq I2 W2 hI hW)⟩) (h1 w1 hw1)
  exact wpQ_mono _ _ _ _ (fun a1 h1 w1 hw1 => h2 a1 w1 h1 hw1) (by simpa using h)
end
end Go.Proofs.YtheblkofemobdaaGreat

/-
  Package zspage: there.
-/
namespace Go.Proofs.YtheblkofemobdaaGreat
open Go.RowKit

attribute [local go_sem] Oper.semAt_some

structure ZOk (s n f m : Nat) : Prop where
  s64 : 64 ≤ s
  s4096 : s ≤ 4096
  smod : s % 64 = 0
  n255 : n ≤ 255
  fm : f + m ≤ s
theorem Sat.gat {L : List HP} {h : PH} (s : Sat L h) : Sat [grp L] h := Sat.append.1 (by rw [List.append_nil]; exact s)
theorem Holds.gather4 {e : Env} {w : World} {X0 X1 X2 X3 : HP} {L : List HP} (H : Holds e w (X0 :: X1 :: X2 :: X3 :: L)) : Holds e w (grp L :: ([X0, X1, X2, X3] ++ [])) :=
  Holds.p4 (H.cons fun _ => Sat.cons fun _ => Sat.cons fun _ => Sat.cons fun _ => Sat.gat)
theorem Holds.ofGrp {e : Env} {w : World} {L A : List HP} (H : Holds e w (grp L :: A)) : Holds e w L :=
  ⟨H.os, H.output, H.tape, let ⟨_, _, _, e1, _, x, _⟩ := H.sat; Sat.mono x e1⟩
theorem Sat.ungat {L A : List HP} {h : PH} (s : Sat (grp L :: A) h) : Sat L h := let ⟨_, _, _, e1, _, x, _⟩ := s; Sat.mono x e1
section
variable {e : Env} {w : World} {R : List HP} {rb : Nat} {M : RamS}
set_option maxHeartbeats 400000 in
theorem zMay {s n f m : Nat} (h : ZOk s n f m) : Calls Tryz.prog 127 #[.int .i64 s, .int .i64 n, .int .i64 f, .int .i64 m] w (Quiet w (.bool true)) := by
  obtain ⟨h1, h2, h3, h4, h5⟩ := h
  have e1 : ((s : Int) % 64 != 0) = false := by simp; omega
  go_enter Tryz.func127, Tryz.ntmps127
  go_wp2
  go_ret
  exact ⟨by simp; omega, 0, rfl⟩
theorem hmf : ∀ (fn : Fn) (first cap : Array Value) (w : World), (Instr.makeFunc fn first cap).run Tryz.prog w = .ok (.func fn first cap) w := fun _ _ _ _ => rfl
def zBoxes (b : Nat) (s n f m : Int) : List HP := [intB (b + 3) m, intB b s, intB (b + 1) n, intB (b + 2) f]
def zSeq (b : Nat) : Value := .func (.func 128) #[] #[.pointer (some ⟨b, 0, none⟩), .pointer (some ⟨b + 1, 0, none⟩), .pointer (some ⟨b + 2, 0, none⟩), .pointer (some ⟨b + 3, 0, none⟩)]
theorem zPieces (H : Holds e w R) (s n f m : Int) : Calls Tryz.prog 116 #[.int .i64 s, .int .i64 n, .int .i64 f, .int .i64 m] w (RetEx e zSeq (fun b => zBoxes b s n f m ++ R)) := by
  have hmf := hmf
  have H1 := (((H.alloc (.cells #[.int .i64 s] 3)).alloc (.cells #[.int .i64 n] 3)).alloc (.cells #[.int .i64 f] 3)).alloc (.cells #[.int .i64 m] 3)
  simp only [World.size_alloc] at H1
  go_enter Tryz.func116, Tryz.ntmps116
  go_wp2
  go_ret
  exact ⟨w.heap.size, rfl, H1.p3.swap.cons fun _ => Sat.cons fun _ => Sat.q1⟩

theorem pcs_mem {a m : Nat} : ∀ p ∈ pcs a m, p.at' + p.len ≤ 4096 ∧ 0 < p.len ∧ p.frame * 4096 + p.at' + p.len ≤ a + m := by
  induction m using Nat.strongRecOn generalizing a with
  | ind m ih =>
    intro p hp
    by_cases h0 : 0 < m
    · rw [pcs_cons a m h0] at hp
      have hlt := Nat.mod_lt a (show 0 < 4096 by omega)
      rcases List.mem_cons.1 hp with rfl | hp
      · refine ⟨?_, ?_, ?_⟩
        · show a % 4096 + min m (4096 - a % 4096) ≤ 4096; omega
        · show 0 < min m (4096 - a % 4096); omega
        · show a / 4096 * 4096 + a % 4096 + min m (4096 - a % 4096) ≤ a + m; omega
      · have := ih (m - min m (4096 - a % 4096)) (by omega) p hp
        omega
    · obtain rfl : m = 0 := by omega
      rw [pcs_nil] at hp
      cases hp
set_option maxRecDepth 100000 in
set_option maxHeartbeats 4000000 in
theorem zThere (H : Holds e w (ramH rb M :: R)) (a : Option Addr) (c : Nat) (rs : List Nat) (hr : ∀ w', Holds e w' R → Reads w' (.slice a rs.length c) 1 rs.length (ints (nats rs))) (hl : rs.length ≤ 4) {s n f m : Nat} (hz : ZOk s n f m)
    (hfit : s * n + f + m ≤ rs.length * 4096) (ho : ∀ r ∈ rs, M.fr.own r ≠ 0) :
    Calls Tryz.prog 115 #[.pointer (some ⟨rb, 0, none⟩), .slice a rs.length c, .int .i64 s, .int .i64 n, .int .i64 f, .int .i64 m] w (Ret e (.bool true) (ramH rb M :: R)) := by
  have hrg : ∀ w' A, Holds e w' (grp R :: A) → Reads w' (.slice a rs.length c) 1 rs.length (ints (nats rs)) := fun w' A h => hr w' h.ofGrp
  have HR := Lib.hid hrg
  have H0 : Holds e w [ramH rb M, grp R] := H.cons fun _ => Sat.gat
  clear hrg H
  have H1 := ((H0.alloc (.cells #[.pointer (some ⟨rb, 0, none⟩)] 26)).alloc (.cells #[.slice a rs.length c] 43)).alloc (.cells #[.bool false] 4)
  simp only [World.size_alloc] at H1
  obtain ⟨bx, hbx⟩ : ∃ bx, w.heap.size = bx := ⟨_, rfl⟩
  rw [hbx] at H1
  have cm := fun w => zMay (w := w) hz
  have hs1 := H1.p2.cells
  have HZ := Lib.hid hz
  refine (callsIn_wide (n := 3)).1 ?_
  refine callsIn_of_wp_marks Tryz.func115 rfl trivial ?_ rfl
  simp only [Tryz.ntmps115, List.size_toArray, List.length_cons, List.length_nil, Nat.reduceAdd, Nat.reduceSub, Array.replicate_succ, Array.replicate_zero, List.push_toArray, List.append_toArray, List.nil_append, List.cons_append]
  gi_wp2
  refine ⟨trivial, callsIn_wide.2 ?_⟩
  refine (cm _).mono ?_
  rintro e w1 ⟨rfl, n1, rfl⟩
  gi_wp2
  refine ⟨trivial, callsIn_wide.2 ?_⟩
  refine (zPieces (H1.drewN n1) s n f m).mono ?_
  rintro e w1 ⟨b, rfl, H2⟩
  unfold zSeq
  gi_wp2
  have H3 := Holds.gather4 (X0 := intB (b + 3) m) (X1 := intB b s) (X2 := intB (b + 1) n) (X3 := intB (b + 2) f) H2
  clear H2 H1 hs1 cm
  refine wpIn_range_sl (gf := 128) (lb := #[.pointer (some ⟨b, 0, none⟩), .pointer (some ⟨b + 1, 0, none⟩), .pointer (some ⟨b + 2, 0, none⟩), .pointer (some ⟨b + 3, 0, none⟩)]) rfl (enters_of Tryz.func128 (by kernel_rfl) rfl)
    (pieces_seq b (b + 1) (b + 2) (b + 3) s n f m HZ.out.s4096 HZ.out.n255 (by have := HZ.out.fm; have := HZ.out.s4096; omega) (by have := HZ.out.fm; have := HZ.out.s4096; omega)) (fun _ => rfl) (fun _ => grp (pts (bx + 1 + 1) (.cells #[.bool false] 4) :: pts (bx + 1) (.cells #[.slice a rs.length c] 43) :: pts bx (.cells #[.pointer (some ⟨rb, 0, none⟩)] 26) :: ramH rb M :: [grp R])) (fun _ _ => pur False) H3 ?round ?done ?stop
  case stop =>
    intro D c pre W _ h
    exact h.purE.elim
  case round =>
    intro l k pre x W X hpre h
    obtain ⟨fr, at', ln⟩ := x
    have hx := pcs_mem (a := s * n + f) (m := m) ⟨fr, at', ln⟩ (hpre.subset (by simp))
    have hfr : fr < rs.length := by simp only at hx; omega
    unfold PieceS.val
    gi_wp2
    have hA := Holds.ungrp ((h.alloc (.cells #[.int .i64 fr, .int .i64 at', .int .i64 ln] 161)).swap)
    refine ⟨[grp [pts W.heap.size (.cells #[.int .i64 fr, .int .i64 at', .int .i64 ln] 161), grp (pts (bx + 1 + 1) (.cells #[.bool false] 4) :: pts (bx + 1) (.cells #[.slice a rs.length c] 43) :: pts bx (.cells #[.pointer (some ⟨rb, 0, none⟩)] 26) :: ramH rb M :: [grp R])]], ?_, ?_⟩
    · exact Holds.mkGrp (L := [pts _ _, grp _]) (h.alloc (.cells #[.int .i64 fr, .int .i64 at', .int .i64 ln] 161))
    · intro W2 X2 h2
      have h3 := Holds.ungrp (L := [pts _ _, grp _]) h2
      have hcp := h3.cells
      have h4 := (Holds.ungrp h3.swap).p3
      obtain ⟨q, g, hO, h5⟩ := ram_open h4
      have h6 : Holds e W2 (_ :: _ :: _ :: _ :: _ :: _ :: grp R :: _) := h5
      obtain ⟨I, Wf, hI, hW, hWs⟩ := worlds_of h6
      have hrr := HR.out _ _ (h6.drop.drop.drop.drop.drop.drop)
      obtain ⟨p0, o0, rfl, _⟩ := hrr.at (by omega)
      have q0 : ∀ i, (Wf i).cell? ⟨p0, o0 + fr, none⟩ = some (.int .i64 (rs.getD fr 0 : Nat)) := fun i => by
        obtain ⟨p1, o1, h7, hel⟩ := (HR.out _ _ ((hW i).drop.drop.drop.drop.drop.drop)).at (by omega)
        cases h7
        exact hel fr _ (by rw [ints_get (get_getD (d := 0) (by simpa using hfr)), nats_getD])
      have q1 : ∀ i, (Wf i).cell? ⟨rb, 0, none⟩ = some (.pointer (some ⟨q, 0, none⟩)) := fun i => (hW i).cells 0
      have q2 : ∀ i, (Wf i).cell? ⟨bx, 0, none⟩ = some (.pointer (some ⟨rb, 0, none⟩)) := fun i => (hW i).p5.cells 0
      have q3 : ∀ i, (Wf i).cell? ⟨bx + 1, 0, none⟩ = some (.slice (some ⟨p0, o0, none⟩) rs.length c) := fun i => (hW i).p4.cells 0
      have q4 : ∀ i j, (Wf i).cell? ⟨W.heap.size, j, none⟩ = #[Value.int .i64 fr, .int .i64 at', .int .i64 ln][j]? := fun i => ((hW i).drop.drop.drop.drop.drop.drop.drop).cells
      have q5 : ∀ i, (Wf i).cell? ⟨W.heap.size, 0, none⟩ = some (.int .i64 fr) := fun i => q4 i 0
      have hz : (M.fr.own ((rs.getD fr 0 : Nat) : Int) == 0) = false := by simp only [beq_eq_false_iff_ne]; exact ho _ (getD_mem hfr)
      have hgd : decide (rs.length ≤ fr) = false := decide_eq_false (by omega)
      have CO := Lib.hid fun i => quietQ (frOwner (hW i).swap ((rs.getD fr 0 : Nat) : Int)) (hW i) hWs
      clear q4 hcp h3 h4 h5 hrr h2
      generalize rs.getD fr 0 = o at *
      generalize M.fr.own (o : Int) = ow at *
      generalize W.heap.size = bp at *
      gi_wp2
      refine wpIn_region_holds_round hWs h6 (by kernel_rfl) (by kernel_rfl) (by kernel_rfl) ?_
      (repeat (go_big_quiet_step ((go_at_call 95; exact CO.out _)))); refine wpQuiet_nil ?_; intro _ hw'; obtain ⟨nq, hw''⟩ := hw'; subst hw''
      have h7 := hW nq
      clear q0 q1 q2 q3 q5 CO h6
      gi_wp2
      have h8 := (ram_close (f := q) (g := g) hO rfl h7).q3.imp fun _ => Sat.cons fun _ => Sat.cons fun _ => Sat.cons fun _ => Sat.cons fun _ => Sat.cons fun _ => Sat.drop
      exact Holds.mkGrp (L := [_, _, _, _, _]) h8
  case done =>
    intro D W h
    have h1 := Holds.ungrp h
    have hc := h1.cells
    have hf := h1.frozen
    have hnd : bx + 1 + 1 ≠ D := (Holds.ne (h1.imp fun _ => Sat.cons fun _ s => (Take.there _ (Take.there _ (Take.there _ (Take.there _ (Take.here _ _))))) _ s))
    have H9 := Lib.hid (h1.set 0 (.bool true))
    have hD := Lib.hid (h1.drop.p4)
    gi_wp2
    have H10 : Holds e (W.setCell ⟨bx + 1 + 1, 0, none⟩ (.bool true)) (pts D (.deferred (some [])) :: _) := H9.out.imp fun _ s => (Take.there _ (Take.there _ (Take.there _ (Take.there _ (Take.there _ (Take.here _ _)))))) _ s
    have H11 := (H10.putObj (.deferred none)).drop
    have hc11 := H11.cells
    refine ⟨by simp, .inl ⟨_, _, rfl, run_takeDeferred H10.get, ?_⟩⟩
    refine ⟨.bool true, by simp [results, Tryz.results115, go_sem, hc11], rfl, ?_⟩
    exact (H11.drop.drop.drop).cons fun _ s => Sat.ungat s
end
end Go.Proofs.YtheblkofemobdaaGreat

/-
  Package zspage: Read.
-/
namespace Go.Proofs.YtheblkofemobdaaGreat
open Go.RowKit

attribute [local go_sem] Oper.semAt_some

def RamS.tch (M : RamS) (k : Nat) : RamS := ⟨M.fr, M.mem, M.touches + k⟩
theorem tch_frame (M : RamS) (k n : Nat) : (M.tch k).frame n = M.frame n := rfl
theorem tch_succ (M : RamS) (k : Nat) : (M.tch k).touch = M.tch (k + 1) := by simp [RamS.tch, RamS.touch, Int.add_assoc]
theorem tch_zero (M : RamS) : M.tch 0 = M := by simp [RamS.tch]
def rdP (M : RamS) (rs : List Nat) (p : PieceS) : List UInt8 := ((M.frame (rs.getD p.frame 0)).drop p.at').take p.len
def rdL (M : RamS) (rs : List Nat) (ps : List PieceS) : List UInt8 := ps.flatMap (rdP M rs)

theorem rdP_le (M : RamS) (rs : List Nat) (p : PieceS) : (rdP M rs p).length ≤ p.len := by unfold rdP; rw [List.length_take]; omega
theorem rdL_le (M : RamS) (rs : List Nat) {m : Nat} : ∀ {a : Nat} {pre : List PieceS}, pre <+: pcs a m → (rdL M rs pre).length ≤ m := by
  induction m using Nat.strongRecOn with
  | ind m ih =>
    intro a pre hp
    by_cases h0 : 0 < m
    · rw [pcs_cons a m h0] at hp
      have hlt := Nat.mod_lt a (show 0 < 4096 by omega)
      cases pre with
      | nil => simp [rdL]
      | cons p pre =>
        obtain ⟨rfl, hp2⟩ := List.cons_prefix_cons.1 hp
        have h1 := ih (m - min m (4096 - a % 4096)) (by omega) hp2
        have h2 := rdP_le M rs ⟨a / 4096, a % 4096, min m (4096 - a % 4096)⟩
        simp only [rdL, List.flatMap_cons, List.length_append] at h1 h2 ⊢
        omega
    · obtain rfl : m = 0 := by omega
      rw [pcs_nil, List.prefix_nil] at hp
      subst hp
      simp [rdL]
theorem rdL_snoc (M : RamS) (rs : List Nat) (pre : List PieceS) (p : PieceS) : rdL M rs (pre ++ [p]) = rdL M rs pre ++ rdP M rs p := by simp [rdL]
def zRdI (M : RamS) (rs : List Nat) (bo bx rb : Nat) (a : Option Addr) (c : Nat) (R : List HP) (pre : List PieceS) : HP :=
  exh fun v : Value => grp [pts bo (.cells #[v] 36 (0, 0)), row v 5 1 (rdL M rs pre).length (u8v (rdL M rs pre)), pts (bx + 1) (.cells #[.slice a rs.length c] 43 (0, 0)), pts bx (.cells #[.pointer (some ⟨rb, 0, none⟩)] 26 (0, 0)), ramH rb (M.tch pre.length), grp R]

section
variable {e : Env} {w : World} {R : List HP} {rb : Nat} {M : RamS}
set_option maxRecDepth 100000 in
set_option maxHeartbeats 4000000 in
theorem zRead (H : Holds e w (ramH rb M :: R)) (a : Option Addr) (c : Nat) (rs : List Nat) (hr : ∀ w', Holds e w' R → Reads w' (.slice a rs.length c) 1 rs.length (ints (nats rs))) (hl : rs.length ≤ 4) {s n f m : Nat} (hz : ZOk s n f m)
    (hfit : s * n + f + m ≤ rs.length * 4096) (ho : ∀ r ∈ rs, M.fr.own r ≠ 0) :
    Calls Tryz.prog 93 #[.pointer (some ⟨rb, 0, none⟩), .slice a rs.length c, .int .i64 s, .int .i64 n, .int .i64 f, .int .i64 m] w
      (RetEx e (fun v : Value => .tuple #[v, .bool true]) (fun v => row v 5 1 (rdL M rs (pcs (s * n + f) m)).length (u8v (rdL M rs (pcs (s * n + f) m))) :: ramH rb (M.tch (pcs (s * n + f) m).length) :: R)) := by
  have hrg : ∀ w' A, Holds e w' (grp R :: A) → Reads w' (.slice a rs.length c) 1 rs.length (ints (nats rs)) := fun w' A h => hr w' h.ofGrp
  have HR := Lib.hid hrg
  have hok := (ram_ok H).1
  have H0 : Holds e w [ramH rb M, grp R] := H.cons fun _ => Sat.gat
  clear hrg H
  have H1 := ((H0.alloc (.cells #[.pointer (some ⟨rb, 0, none⟩)] 26)).alloc (.cells #[.slice a rs.length c] 43))
  simp only [World.size_alloc] at H1
  obtain ⟨bx, hbx⟩ : ∃ bx, w.heap.size = bx := ⟨_, rfl⟩
  rw [hbx] at H1
  have HZ := Lib.hid hz
  refine (callsIn_wide (n := 3)).1 ?_
  refine callsIn_of_wp_marks Tryz.func93 rfl trivial ?_ rfl
  simp only [Tryz.ntmps93, List.size_toArray, List.length_cons, List.length_nil, Nat.reduceAdd, Nat.reduceSub, Array.replicate_succ, Array.replicate_zero, List.push_toArray, List.append_toArray, List.nil_append, List.cons_append]
  gi_wp2
  refine ⟨trivial, callsIn_wide.2 ?_⟩
  refine (zThere H1.p2 a c rs (fun w' h => HR.out w' _ h.drop.drop) hl HZ.out hfit ho).mono ?_
  rintro e w1 ⟨rfl, H2⟩
  have H3 := H2.alloc (.cells #[.slice none 0 0] 36)
  obtain ⟨bo, hbo⟩ : ∃ bo, w1.heap.size = bo := ⟨_, rfl⟩
  rw [hbo] at H3
  gi_wp2
  refine ⟨trivial, callsIn_wide.2 ?_⟩
  refine (zPieces H3 s n f m).mono ?_
  rintro e w2 ⟨b, rfl, H4⟩
  unfold zSeq
  gi_wp2
  have H5 := Holds.gather4 (X0 := intB (b + 3) m) (X1 := intB b s) (X2 := intB (b + 1) n) (X3 := intB (b + 2) f) H4
  have H6 : Holds e w2 (zRdI M rs bo bx rb a c R [] :: ([intB (b + 3) m, intB b s, intB (b + 1) n, intB (b + 2) f] ++ [])) := by
    have h := Holds.ungrp H5
    refine Holds.mkExh (.slice none 0 0) (Holds.mkGrp ?_)
    rw [List.length_nil, tch_zero]
    have h2 := (row.nil 5 1 h)
    exact (h2.swap.cons fun _ => Sat.cons fun _ s => Sat.q2 s)
  clear H5 H4 H3 H2 H1
  refine wpIn_range_sl (gf := 128) (lb := #[.pointer (some ⟨b, 0, none⟩), .pointer (some ⟨b + 1, 0, none⟩), .pointer (some ⟨b + 2, 0, none⟩), .pointer (some ⟨b + 3, 0, none⟩)]) rfl (enters_of Tryz.func128 (by kernel_rfl) rfl)
    (pieces_seq b (b + 1) (b + 2) (b + 3) s n f m HZ.out.s4096 HZ.out.n255 (by have := HZ.out.fm; have := HZ.out.s4096; omega) (by have := HZ.out.fm; have := HZ.out.s4096; omega)) (fun _ => rfl) (zRdI M rs bo bx rb a c R) (fun _ _ => pur False) H6 ?round ?done ?stop
  case stop =>
    intro D c pre W _ h
    exact h.purE.elim
  case done =>
    intro D W h
    obtain ⟨v, h0⟩ := Holds.exE h
    have h1 := Holds.ungrp h0
    have hc := h1.cells
    have hD := h1.imp fun _ s => (Take.there _ (Take.there _ (Take.there _ (Take.there _ (Take.there _ (Take.there _ (Take.here _ _))))))) _ s
    gi_wp2
    have H11 := (hD.putObj (.deferred none)).drop
    refine ⟨by simp, .inl ⟨_, _, rfl, run_takeDeferred hD.get, ?_⟩⟩
    refine ⟨_, by simp [results, Tryz.results93, go_sem], v, rfl, ?_⟩
    exact (H11.drop.cons fun _ s => Sat.drop (Sat.drop s)).cons fun _ s => Sat.cons (fun _ s => Sat.ungat s) s
  case round =>
    intro l k pre x W X hpre h
    obtain ⟨fr, at', ln⟩ := x
    have hx := pcs_mem (a := s * n + f) (m := m) ⟨fr, at', ln⟩ (hpre.subset (by simp))
    have hfr : fr < rs.length := by simp only at hx; omega
    unfold PieceS.val
    gi_wp2
    refine ⟨[grp [pts W.heap.size (.cells #[.int .i64 fr, .int .i64 at', .int .i64 ln] 161), zRdI M rs bo bx rb a c R pre]], ?_, ?_⟩
    · exact Holds.mkGrp (L := [pts _ _, _]) (h.alloc (.cells #[.int .i64 fr, .int .i64 at', .int .i64 ln] 161))
    · intro W2 X2 h2
      obtain ⟨v, h3⟩ := Holds.exE (Holds.ungrp (L := [pts _ _, _]) h2).swap
      have h4 := Holds.ungrp h3
      obtain ⟨I, Wf, hI, hW, hWs⟩ := worlds_of h4
      obtain ⟨p0, o0, rfl, _⟩ := (HR.out _ _ (h4.drop.drop.drop.drop.drop)).at (by omega)
      have q0 : ∀ i, (Wf i).cell? ⟨p0, o0 + fr, none⟩ = some (.int .i64 (rs.getD fr 0 : Nat)) := fun i => by
        obtain ⟨p1, o1, h7, hel⟩ := (HR.out _ _ ((hW i).drop.drop.drop.drop.drop)).at (by omega)
        cases h7
        exact hel fr _ (by rw [ints_get (get_getD (d := 0) (by simpa using hfr)), nats_getD])
      have q2 : ∀ i, (Wf i).cell? ⟨bx, 0, none⟩ = some (.pointer (some ⟨rb, 0, none⟩)) := fun i => (hW i).p3.cells 0
      have q3 : ∀ i, (Wf i).cell? ⟨bx + 1, 0, none⟩ = some (.slice (some ⟨p0, o0, none⟩) rs.length c) := fun i => (hW i).p2.cells 0
      have q4 : ∀ i j, (Wf i).cell? ⟨W.heap.size, j, none⟩ = #[Value.int .i64 fr, .int .i64 at', .int .i64 ln][j]? := fun i => ((hW i).drop.drop.drop.drop.drop.drop).cells
      have q5 : ∀ i, (Wf i).cell? ⟨W.heap.size, 0, none⟩ = some (.int .i64 fr) := fun i => q4 i 0
      have q6 : ∀ i, (Wf i).cell? ⟨W.heap.size, 1, none⟩ = some (.int .i64 at') := fun i => q4 i 1
      have q7 : ∀ i, (Wf i).cell? ⟨W.heap.size, 2, none⟩ = some (.int .i64 ln) := fun i => q4 i 2
      have hpo : partOk (M.tch pre.length) ((rs.getD fr 0 : Nat) : Int) at' ln := ⟨ho _ (getD_mem hfr), by omega, by omega, by have := hx.1; omega⟩
      have CR := Lib.hid fun i => ramRead_yes (hW i).p4 (rs.getD fr 0) at' ln hx.2.1 hpo
      have HO : Hid (rs.getD fr 0 = rs.getD fr 0) := Lib.hid rfl
      clear q4 h3 h2
      generalize W.heap.size = bp at *
      generalize hor : rs.getD fr 0 = o at *
      have HOR := Lib.hid hor
      clear hor HO hpo
      gi_wp2
      refine wpIn_region_call_holds 10 hWs h4 (by kernel_rfl) (by kernel_rfl) rfl (by kernel_rfl) (by kernel_rfl) (by kernel_rfl) (by kernel_rfl) ?_
      simp only [List.take_succ_cons, List.take_zero, List.drop_succ_cons, List.drop_zero]
      repeat (go_big_quiet_step (fail))
      refine wpQuiet_nil ?_
      rintro w1 ⟨nq, rfl⟩
      refine ⟨fun _ _ => trivial, ?_⟩
      rw [Fence.inRound_round, Oper.semAt_some _ _ _ (by intro c h; cases h)]
      go_simp
      refine ⟨fun h => by simp [Fence.wide] at h, CallsIn.inRound l (callsIn_wide.2 ((CR.out nq).mono ?_))⟩
      rintro en w3 ⟨vb, rfl, H7⟩
      dsimp only at H7
      obtain ⟨av, cv, rfl⟩ := row_shape H7
      dsimp only
      refine ⟨_, H7, fun I2 W2 hI2 hW2 => ?_⟩
      repeat (go_big_quiet_step (fail))
      refine wpQuiet_nil ?_
      intro i2
      have H8 := hW2 i2
      have hle := rdL_le M rs (a := s * n + f) (m := m) (List.IsPrefix.trans (List.prefix_append pre [_]) hpre)
      have hm4 : m ≤ 4096 := by have := HZ.out.fm; have := HZ.out.s4096; omega
      have HSZ : Hid (ln = (rdP M rs ⟨fr, at', ln⟩).length) := Lib.hid (by have := (row.open H8).1; rw [u8v_length, Nat.mul_one] at this; unfold rdP; rw [HOR.out]; exact this.symm)
      have hcb : ∀ i, (W2 i).cell? ⟨bo, 0, none⟩ = some v := fun i => (hW2 i).p2.cells 0
      have HLE := Lib.hid hle
      clear q0 q2 q3 q5 q6 q7 CR hle
      gi_wp2_with (gi_at_builtin; refine wpListIn_append_sl rfl _ _ _ rfl 5 1 1 elem_u8 v _ _ rfl H8.p3 (.slice av ln cv) ln (u8v (((M.frame o).drop at').take ln)) rfl (row.reads H8) (u8v_one _) ?_ ?_ ?_)
      · have := HLE.out; unfold maxLen; omega
      · have := HLE.out; omega
      intro v' w9 H9
      obtain ⟨aw, cw, rfl⟩ := row_shape H9
      have hfz := H9.p3.frozen
      have hcz := H9.p3.cells
      have H10 := Lib.hid (H9.p3.set 0 (.slice aw ((rdL M rs pre).length + ln) cw))
      clear H9 H8 hW2 hcb
      gi_wp2
      have h8 := H10.out
      have e1 : u8v (rdL M rs pre) ++ u8v (((M.frame o).drop at').take ln) = u8v (rdL M rs (pre ++ [⟨fr, at', ln⟩])) := by
        rw [← u8v_append, rdL_snoc]; unfold rdP; rw [HOR.out]
      have e2 : (rdL M rs pre).length + ln = (rdL M rs (pre ++ [⟨fr, at', ln⟩])).length := by
        rw [rdL_snoc, List.length_append, ← HSZ.out]
      rw [e1, tch_succ] at h8
      rw [show pre.length + 1 = (pre ++ [(⟨fr, at', ln⟩ : PieceS)]).length by simp] at h8
      rw [e2] at h8 ⊢
      have h9 : Holds e _ (_ :: _ :: _ :: _ :: _ :: _ :: X2) := (((h8.d2.imp fun _ s => Sat.cons (fun _ s => Sat.cons (fun _ s => Sat.q2 s) s) s)).d6)
      exact Holds.mkExh (.slice aw (rdL M rs (pre ++ [(⟨fr, at', ln⟩ : PieceS)])).length cw) (Holds.mkGrp (L := [_, _, _, _, _, _]) h9)
end
end Go.Proofs.YtheblkofemobdaaGreat

/-
  Package zspage: Write.
-/
namespace Go.Proofs.YtheblkofemobdaaGreat
open Go.RowKit

attribute [local go_sem] Oper.semAt_some

def lens (ps : List PieceS) : Nat := (ps.map PieceS.len).sum
theorem lens_snoc (ps : List PieceS) (p : PieceS) : lens (ps ++ [p]) = lens ps + p.len := by simp [lens]
theorem lens_le {m : Nat} : ∀ {a : Nat} {pre : List PieceS}, pre <+: pcs a m → lens pre ≤ m := by
  induction m using Nat.strongRecOn with
  | ind m ih =>
    intro a pre hp
    by_cases h0 : 0 < m
    · rw [pcs_cons a m h0] at hp
      have hlt := Nat.mod_lt a (show 0 < 4096 by omega)
      cases pre with
      | nil => simp [lens]
      | cons p pre =>
        obtain ⟨rfl, hp2⟩ := List.cons_prefix_cons.1 hp
        have h1 := ih (m - min m (4096 - a % 4096)) (by omega) hp2
        simp only [lens, List.map_cons, List.sum_cons] at h1 ⊢
        omega
    · obtain rfl : m = 0 := by omega
      rw [pcs_nil, List.prefix_nil] at hp
      subst hp
      simp [lens]
def wrL : RamS → List Nat → List PieceS → List UInt8 → RamS
  | M, _, [], _ => M
  | M, rs, p :: ps, d => wrL (M.write (rs.getD p.frame 0) p.at' (d.take p.len)) rs ps (d.drop p.len)
theorem wrL_snoc (rs : List Nat) (p : PieceS) : ∀ (ps : List PieceS) (M : RamS) (d : List UInt8), wrL M rs (ps ++ [p]) d = (wrL M rs ps d).write (rs.getD p.frame 0) p.at' ((d.drop (lens ps)).take p.len)
  | [], M, d => by simp [wrL, lens]
  | q :: ps, M, d => by
    rw [List.cons_append, wrL, wrL, wrL_snoc rs p ps, List.drop_drop]
    simp [lens]
theorem wrL_fr (rs : List Nat) : ∀ (ps : List PieceS) (M : RamS) (d : List UInt8), (wrL M rs ps d).fr = M.fr
  | [], M, d => rfl
  | p :: ps, M, d => by rw [wrL, wrL_fr rs ps]; rfl

theorem RdB.take {w : World} {g : Addr} {n c k : Nat} {l : List UInt8} (h : RdB w (.slice (some g) n c) l) (hk : k ≤ l.length) : RdB w (.slice (some g) k c) (l.take k) := by
  obtain ⟨h1, h2 | ⟨a, cap, h3, h4, h5⟩⟩ := h
  · cases h2.1
  · cases h3
    refine ⟨by simp, .inr ⟨_, _, by rw [List.length_take, Nat.min_eq_left hk], by rw [List.length_take]; omega, fun j u hj => ?_⟩⟩
    rw [← u8v_take] at hj
    exact h5 j u (take_get hj).1
theorem RdB.drop {w : World} {b o n c k : Nat} {l : List UInt8} (h : RdB w (.slice (some ⟨b, o, none⟩) n c) l) (hk : k ≤ l.length) : RdB w (.slice (some ⟨b, o + k, none⟩) (n - k) (c - k)) (l.drop k) := by
  obtain ⟨h1, h2 | ⟨a, cap, h3, h4, h5⟩⟩ := h
  · cases h2.1
  · cases h3
    refine ⟨by simp, .inr ⟨_, _, by rw [List.length_drop], by rw [List.length_drop]; omega, fun j u hj => ?_⟩⟩
    rw [← u8v_drop, List.getElem?_drop] at hj
    have := h5 _ u hj
    rw [Addr.add_at] at this ⊢
    rw [Nat.add_assoc]
    exact this
theorem RdB.dropAll {w : World} {g : Addr} {c k : Nat} {l : List UInt8} (hk : k = l.length) : RdB w (.slice (some g) 0 c) (l.drop k) := by
  subst hk
  refine ⟨by simp, .inr ⟨g, c, by rw [List.length_drop, Nat.sub_self], by simp, fun j u hj => ?_⟩⟩
  simp [u8v] at hj
theorem RdB.at {w : World} {v : Value} {l : List UInt8} (h : RdB w v l) (h0 : 0 < l.length) : ∃ b o c, v = .slice (some ⟨b, o, none⟩) l.length c ∧ l.length ≤ c := by
  obtain ⟨a, c, rfl⟩ := h.shape
  obtain ⟨b, o, rfl, _⟩ := Reads.at h (by omega)
  refine ⟨b, o, c, rfl, ?_⟩
  obtain ⟨_, h2 | ⟨_, _, h3, h4, _⟩⟩ := h
  · cases h2.1
  · cases h3; exact h4

def zWrI (M : RamS) (rs : List Nat) (d : List UInt8) (bx rb : Nat) (a : Option Addr) (c : Nat) (e : Env) (R : List HP) (pre : List PieceS) : HP :=
  exh fun v : Value => grp [pur (∀ w' A, Holds e w' (grp R :: A) → RdB w' v (d.drop (lens pre))), pts (bx + 2) (.cells #[v] 36 (0, 0)), pts (bx + 1) (.cells #[.slice a rs.length c] 43 (0, 0)), pts bx (.cells #[.pointer (some ⟨rb, 0, none⟩)] 26 (0, 0)), ramH rb (wrL M rs pre d), grp R]
section
variable {e : Env} {w : World} {R : List HP} {rb : Nat} {M : RamS}
set_option maxRecDepth 100000 in
set_option maxHeartbeats 4000000 in
theorem zWrite (H : Holds e w (ramH rb M :: R)) (a : Option Addr) (c : Nat) (rs : List Nat) (hr : ∀ w', Holds e w' R → Reads w' (.slice a rs.length c) 1 rs.length (ints (nats rs))) (hl : rs.length ≤ 4) (d : List UInt8) (vd : Value) (hd : ∀ w', Holds e w' R → RdB w' vd d) {s n f : Nat} (hz : ZOk s n f d.length)
    (hfit : s * n + f + d.length ≤ rs.length * 4096) (ho : ∀ r ∈ rs, M.fr.own r ≠ 0) :
    Calls Tryz.prog 106 #[.pointer (some ⟨rb, 0, none⟩), .slice a rs.length c, .int .i64 s, .int .i64 n, .int .i64 f, vd] w
      (Ret e (.bool true) (ramH rb (wrL M rs (pcs (s * n + f) d.length) d) :: R)) := by
  have hrg : ∀ w' A, Holds e w' (grp R :: A) → Reads w' (.slice a rs.length c) 1 rs.length (ints (nats rs)) := fun w' A h => hr w' h.ofGrp
  have hdg : ∀ w' A, Holds e w' (grp R :: A) → RdB w' vd d := fun w' A h => hd w' h.ofGrp
  have HR := Lib.hid hrg
  have HD := Lib.hid hdg
  obtain ⟨da, dc, rfl⟩ := (hd w H.drop).shape
  have H0 : Holds e w [ramH rb M, grp R] := H.cons fun _ => Sat.gat
  clear hrg hdg hd H
  have H1 := (((H0.alloc (.cells #[.pointer (some ⟨rb, 0, none⟩)] 26)).alloc (.cells #[.slice a rs.length c] 43)).alloc (.cells #[.slice da d.length dc] 36))
  simp only [World.size_alloc] at H1
  obtain ⟨bx, hbx⟩ : ∃ bx, w.heap.size = bx := ⟨_, rfl⟩
  rw [hbx] at H1
  have HZ := Lib.hid hz
  obtain ⟨m, hm⟩ : ∃ m, d.length = m := ⟨_, rfl⟩
  have HM := Lib.hid hm
  rw [hm] at H1 hz HZ hfit ⊢
  clear hm
  refine (callsIn_wide (n := 3)).1 ?_
  refine callsIn_of_wp_marks Tryz.func106 rfl trivial ?_ rfl
  simp only [Tryz.ntmps106, List.size_toArray, List.length_cons, List.length_nil, Nat.reduceAdd, Nat.reduceSub, Array.replicate_succ, Array.replicate_zero, List.push_toArray, List.append_toArray, List.nil_append, List.cons_append]
  gi_wp2
  refine ⟨trivial, callsIn_wide.2 ?_⟩
  refine (zThere H1.p3 a c rs (fun w' h => HR.out w' _ h.drop.drop.drop) hl HZ.out hfit ho).mono ?_
  rintro e w1 ⟨rfl, H2⟩
  have hc2 := H2.swap.cells
  gi_wp2
  refine ⟨trivial, callsIn_wide.2 ?_⟩
  refine (zPieces H2 s n f m).mono ?_
  rintro e w2 ⟨b, rfl, H4⟩
  unfold zSeq
  gi_wp2
  have H5 := Holds.gather4 (X0 := intB (b + 3) m) (X1 := intB b s) (X2 := intB (b + 1) n) (X3 := intB (b + 2) f) H4
  have H6 : Holds e w2 (zWrI M rs d bx rb a c e R [] :: ([intB (b + 3) m, intB b s, intB (b + 1) n, intB (b + 2) f] ++ [])) := by
    have h := Holds.ungrp H5
    refine Holds.mkExh (.slice da m dc) (Holds.mkGrp (L := [_, _, _, _, _, _]) (Holds.mkPur ?_ ?_))
    · intro w' A h'
      have := HD.out w' A h'
      rw [HM.out] at this
      exact this
    · have h2 : Holds e w2 (_ :: _ :: _ :: _ :: grp R :: ([intB (b + 3) m, intB b s, intB (b + 1) n, intB (b + 2) f] ++ [])) := h
      exact h2.q3
  clear H5 H4 H2 H1 hc2 H0
  refine wpIn_range_sl (gf := 128) (lb := #[.pointer (some ⟨b, 0, none⟩), .pointer (some ⟨b + 1, 0, none⟩), .pointer (some ⟨b + 2, 0, none⟩), .pointer (some ⟨b + 3, 0, none⟩)]) rfl (enters_of Tryz.func128 (by kernel_rfl) rfl)
    (pieces_seq b (b + 1) (b + 2) (b + 3) s n f m HZ.out.s4096 HZ.out.n255 (by have := HZ.out.fm; have := HZ.out.s4096; omega) (by have := HZ.out.fm; have := HZ.out.s4096; omega)) (fun _ => rfl) (zWrI M rs d bx rb a c e R) (fun _ _ => pur False) H6 ?round ?done ?stop
  case stop =>
    intro D c pre W _ h
    exact h.purE.elim
  case done =>
    intro D W h
    obtain ⟨v, h0⟩ := Holds.exE h
    have h1 := (Holds.ungrp h0).drop
    have hD : Holds e W (pts D (.deferred (some [])) :: _) := h1.imp fun _ s => (Take.there _ (Take.there _ (Take.there _ (Take.there _ (Take.there _ (Take.here _ _)))))) _ s
    gi_wp2
    have H11 := (hD.putObj (.deferred none)).drop
    refine ⟨by simp, .inl ⟨_, _, rfl, run_takeDeferred hD.get, ?_⟩⟩
    refine ⟨.bool true, by simp [results, Tryz.results106, go_sem], rfl, ?_⟩
    exact (H11.drop.drop.drop).cons fun _ s => Sat.ungat s
  case round =>
    intro l k pre x W X hpre h
    obtain ⟨fr, at', ln⟩ := x
    have hx := pcs_mem (a := s * n + f) (m := m) ⟨fr, at', ln⟩ (hpre.subset (by simp))
    have hfr : fr < rs.length := by simp only at hx; omega
    have hln := lens_le (a := s * n + f) (m := m) hpre
    rw [lens_snoc] at hln
    unfold PieceS.val
    gi_wp2
    refine ⟨[grp [pts W.heap.size (.cells #[.int .i64 fr, .int .i64 at', .int .i64 ln] 161), zWrI M rs d bx rb a c e R pre]], ?_, ?_⟩
    · exact Holds.mkGrp (L := [pts _ _, _]) (h.alloc (.cells #[.int .i64 fr, .int .i64 at', .int .i64 ln] 161))
    · intro W2 X2 h2
      obtain ⟨v, h3⟩ := Holds.exE (Holds.ungrp (L := [pts _ _, _]) h2).swap
      have h4 := Holds.ungrp h3
      have hv := h4.purE
      have h4 := h4.drop
      obtain ⟨I, Wf, hI, hW, hWs⟩ := worlds_of h4
      obtain ⟨p0, o0, rfl, _⟩ := (HR.out _ _ (h4.drop.drop.drop.drop)).at (by omega)
      have q0 : ∀ i, (Wf i).cell? ⟨p0, o0 + fr, none⟩ = some (.int .i64 (rs.getD fr 0 : Nat)) := fun i => by
        obtain ⟨p1, o1, h7, hel⟩ := (HR.out _ _ ((hW i).drop.drop.drop.drop)).at (by omega)
        cases h7
        exact hel fr _ (by rw [ints_get (get_getD (d := 0) (by simpa using hfr)), nats_getD])
      have hdl : (d.drop (lens pre)).length = m - lens pre := by rw [List.length_drop, HM.out]
      have hlt : 0 < (d.drop (lens pre)).length := by omega
      obtain ⟨vb, vo, vc, rfl, hvc⟩ := (hv _ _ (h4.drop.drop.drop.drop)).at hlt
      have q2 : ∀ i, (Wf i).cell? ⟨bx, 0, none⟩ = some (.pointer (some ⟨rb, 0, none⟩)) := fun i => (hW i).p2.cells 0
      have q3 : ∀ i, (Wf i).cell? ⟨bx + 1, 0, none⟩ = some (.slice (some ⟨p0, o0, none⟩) rs.length c) := fun i => (hW i).swap.cells 0
      have q4 : ∀ i j, (Wf i).cell? ⟨W.heap.size, j, none⟩ = #[Value.int .i64 fr, .int .i64 at', .int .i64 ln][j]? := fun i => ((hW i).drop.drop.drop.drop.drop).cells
      have q5 : ∀ i, (Wf i).cell? ⟨W.heap.size, 0, none⟩ = some (.int .i64 fr) := fun i => q4 i 0
      have q6 : ∀ i, (Wf i).cell? ⟨W.heap.size, 1, none⟩ = some (.int .i64 at') := fun i => q4 i 1
      have q7 : ∀ i, (Wf i).cell? ⟨W.heap.size, 2, none⟩ = some (.int .i64 ln) := fun i => q4 i 2
      have q8 : ∀ i, (Wf i).cell? ⟨bx + 1 + 1, 0, none⟩ = some (.slice (some ⟨vb, vo, none⟩) (d.drop (lens pre)).length vc) := fun i => (hW i).cells 0
      have hln' : ln ≤ (d.drop (lens pre)).length := by rw [hdl]; omega
      have hll : ((d.drop (lens pre)).take ln).length = ln := by rw [List.length_take]; omega
      have hpo : partOk (wrL M rs pre d) ((rs.getD fr 0 : Nat) : Int) at' ((d.drop (lens pre)).take ln).length := ⟨by rw [wrL_fr]; exact ho _ (getD_mem hfr), by omega, by omega, by have := hx.1; omega⟩
      have CW := Lib.hid fun i => ramWrite_yes (hW i).p3 (rs.getD fr 0) at' (.slice (some ⟨vb, vo, none⟩) ln vc) ((d.drop (lens pre)).take ln) (by rw [hll]; exact hx.2.1) hpo (fun w' h' => (hv _ _ (h'.drop.drop.drop)).take hln')
      have HV := Lib.hid hv
      clear q4 h3 h2 hpo hll hv hdl
      generalize W.heap.size = bp at *
      obtain ⟨r, hrl⟩ : ∃ r, (d.drop (lens pre)).length = r := ⟨_, rfl⟩
      have HRL := Lib.hid hrl
      rw [hrl] at q8 hln' hlt hvc
      clear hrl
      generalize hor : rs.getD fr 0 = o at q0 CW
      have HOR := Lib.hid hor
      clear hor
      gi_wp2
      refine wpIn_region_call_holds 12 hWs h4 (by kernel_rfl) (by kernel_rfl) rfl (by kernel_rfl) (by kernel_rfl) (by kernel_rfl) (by kernel_rfl) ?_
      simp only [List.take_succ_cons, List.take_zero, List.drop_succ_cons, List.drop_zero]
      repeat (go_big_quiet_step (fail))
      refine wpQuiet_nil ?_
      rintro w1 ⟨nq, rfl⟩
      refine ⟨fun _ _ => trivial, ?_⟩
      rw [Fence.inRound_round, Oper.semAt_some _ _ _ (by intro c h; cases h)]
      go_simp
      refine ⟨fun h => by simp [Fence.wide] at h, CallsIn.inRound l (callsIn_wide.2 ((CW.out nq).mono ?_))⟩
      rintro en w3 ⟨rfl, H7⟩
      dsimp only
      refine ⟨_, H7, fun I2 W2 hI2 hW2 => ?_⟩
      repeat (go_big_quiet_step (fail))
      refine wpQuiet_nil ?_
      intro i2
      have H8 := hW2 i2
      generalize W2 i2 = w4 at H8 ⊢
      have hfz := H8.swap.frozen
      have hcz : w4.cell? ⟨bx + 1 + 1, 0, none⟩ = some (.slice (some ⟨vb, vo, none⟩) r vc) := by rw [← HRL.out]; exact H8.swap.cells 0
      have hcp : w4.cell? ⟨bp, 2, none⟩ = some (.int .i64 ln) := (H8.drop.drop.drop.drop.drop).cells 2
      clear q0 q2 q3 q5 q6 q7 q8 CW hW2 H7 hW hWs h4
      have hv2 : ∀ vo' : Nat, (r - ln = 0 ∨ vo' = vo + ln) → ∀ w' A, Holds e w' (grp R :: A) → RdB w' (.slice (some ⟨vb, vo', none⟩) (r - ln) (vc - ln)) (d.drop (lens (pre ++ [⟨fr, at', ln⟩]))) := by
        intro vo' hvo w' A h'
        have h := HV.out w' A h'
        have hd2 : d.drop (lens (pre ++ [⟨fr, at', ln⟩])) = (d.drop (lens pre)).drop ln := by rw [lens_snoc, List.drop_drop]
        rw [hd2]
        rcases hvo with h0 | rfl
        · rw [h0]
          exact RdB.dropAll (by rw [HRL.out]; omega)
        · have := h.drop (k := ln) (by rw [HRL.out]; exact hln')
          rwa [HRL.out] at this
      have e3 : (wrL M rs pre d).write o at' ((d.drop (lens pre)).take ln) = wrL M rs (pre ++ [⟨fr, at', ln⟩]) d := by rw [wrL_snoc, ← HOR.out]
      have H9 : Holds e w4 (pts (bx + 1 + 1) (.cells #[.slice (some ⟨vb, vo, none⟩) (d.drop (lens pre)).length vc] 36 (0, 0)) :: pts (bx + 1) (.cells #[.slice (some ⟨p0, o0, none⟩) rs.length c] 43 (0, 0)) :: pts bx (.cells #[.pointer (some ⟨rb, 0, none⟩)] 26 (0, 0)) :: ramH rb (wrL M rs (pre ++ [⟨fr, at', ln⟩]) d) :: grp R :: X2) := by
        rw [← e3]
        exact (H8.q3.d5)
      have HV2 := Lib.hid hv2
      clear hv2 e3 H8
      have HS := Lib.hid fun v => H9.set 0 v
      have hcv : ∀ A', Holds e w4 A' → True := fun _ _ => trivial
      clear hcv H9
      by_cases hcl : vc = ln
      · obtain rfl : r = ln := by omega
        subst hcl
        gi_wp2
        refine Holds.mkExh (.slice (some ⟨vb, vo, none⟩) 0 0) (Holds.mkGrp (L := [_, _, _, _, _, _]) (Holds.mkPur ?_ (HS.out _)))
        have := HV2.out vo (.inl (Nat.sub_self _))
        rwa [Nat.sub_self] at this
      · gi_wp2
        exact Holds.mkExh (.slice (some ⟨vb, vo + ln, none⟩) (r - ln) (vc - ln)) (Holds.mkGrp (L := [_, _, _, _, _, _]) (Holds.mkPur (HV2.out (vo + ln) (.inr rfl)) (HS.out _)))
end
end Go.Proofs.YtheblkofemobdaaGreat

/-
  Package zspage: what Read and Write mean: a zspage's frames, laid in a row, are one list of bytes. No program in sight but in the two last theorems.
-/
namespace Go.Proofs.YtheblkofemobdaaGreat
open Go.RowKit

/-- The bytes of the frames rs in a row. -/
def pgB (M : RamS) (rs : List Nat) : List UInt8 := (rs.map M.frame).flatten
/-- All of rs are frames. -/
def RowIn (M : RamS) (rs : List Nat) : Prop := ∀ r ∈ rs, r < M.fr.owner.length
theorem rows_each {M : RamS} {rs : List Nat} (hO : RamOk M) (h : RowIn M rs) : ∀ f ∈ rs.map M.frame, f.length = 4096 := by
  intro f hf
  obtain ⟨r, hr, rfl⟩ := List.mem_map.1 hf
  exact hO.frame (h r hr)
theorem pgB_length {M : RamS} {rs : List Nat} (hO : RamOk M) (h : RowIn M rs) : (pgB M rs).length = rs.length * 4096 := by
  unfold pgB
  rw [flat_length (rows_each hO h), List.length_map]
theorem map_getD {M : RamS} {rs : List Nat} {n : Nat} (h : n < rs.length) : (rs.map M.frame).getD n [] = M.frame (rs.getD n 0) := by
  simp [List.getD, h]
theorem rd_flat {M : RamS} {rs : List Nat} (hO : RamOk M) (h : RowIn M rs) {m : Nat} : ∀ {a : Nat}, a + m ≤ rs.length * 4096 → rdL M rs (pcs a m) = ((pgB M rs).drop a).take m := by
  induction m using Nat.strongRecOn with
  | ind m ih =>
    intro a ham
    by_cases h0 : 0 < m
    · have hlt := Nat.mod_lt a (show 0 < 4096 by omega)
      have hk : min m (4096 - a % 4096) + (m - min m (4096 - a % 4096)) = m := by omega
      have h1 := ih (m - min m (4096 - a % 4096)) (by omega) (a := a + min m (4096 - a % 4096)) (by omega)
      have hn : a / 4096 < rs.length := by omega
      have h2 := flat_read (mem := rs.map M.frame) (n := a / 4096) (at' := a % 4096) (m := min m (4096 - a % 4096)) (rows_each hO h) (by simpa using hn) (by omega)
      rw [show a / 4096 * 4096 + a % 4096 = a by omega, map_getD hn] at h2
      rw [pcs_cons a m h0]
      unfold rdL at h1 ⊢
      rw [List.flatMap_cons, h1]
      unfold rdP
      dsimp only
      rw [← h2]
      unfold pgB
      conv => rhs; rw [← hk, List.take_add, List.drop_drop]
    · obtain rfl : m = 0 := by omega
      simp [pcs_nil, rdL]

theorem spl_spl {α : Type} {l : List α} {i : Nat} {d e : List α} (h : i + d.length + e.length ≤ l.length) : spl (spl l i d) (i + d.length) e = spl l i (d ++ e) := by
  apply List.ext_getElem?
  intro k
  have h1 : (spl l i d).length = l.length := spl_length (by omega)
  rw [spl_get (l := spl l i d) (d := e) (by omega), spl_get (l := l) (d := d ++ e) (by rw [List.length_append]; omega), spl_get (l := l) (d := d) (by omega)]
  simp only [List.length_append]
  by_cases a1 : k < i
  · rw [if_neg (by omega), if_neg (by omega), if_neg (by omega)]
  · by_cases a2 : k < i + d.length
    · rw [if_neg (by omega), if_pos (by omega), if_pos (by omega), List.getElem?_append_left (by omega)]
    · by_cases a3 : k < i + d.length + e.length
      · rw [if_pos (by omega), if_pos (by omega), List.getElem?_append_right (by omega), show k - (i + d.length) = k - i - d.length by omega]
      · rw [if_neg (by omega), if_neg (by omega), if_neg (by omega)]

theorem write_frame {M : RamS} {n at' k : Nat} {d : List UInt8} (hn : n < M.mem.length) : (M.write n at' d).frame k = if k = n then spl (M.frame n) at' d else M.frame k := by
  unfold RamS.frame RamS.write
  dsimp only
  exact getD_set hn
theorem write_pgB {M : RamS} {rs : List Nat} (hO : RamOk M) (h : RowIn M rs) (hnd : rs.Nodup) {n at' : Nat} {d : List UInt8} (hn : n < rs.length) (hm : at' + d.length ≤ 4096) : pgB (M.write (rs.getD n 0) at' d) rs = spl (pgB M rs) (n * 4096 + at') d := by
  have hr := h _ (getD_mem (d := 0) hn)
  unfold pgB
  rw [flat_write (rows_each hO h) (by simpa using hn) hm, map_getD hn]
  congr 1
  apply List.ext_getElem?
  intro k
  rw [List.getElem?_set]
  by_cases hk : k < rs.length
  · rw [List.getElem?_map, get_getD (d := 0) hk, Option.map_some, write_frame (by rw [hO.len]; exact hr)]
    by_cases hkn : n = k
    · subst hkn
      rw [if_pos rfl, if_pos rfl, if_pos (by simpa using hn)]
    · rw [if_neg hkn, List.getElem?_map, get_getD (d := 0) hk, Option.map_some, if_neg]
      intro he
      have e1 : rs[k] = rs[n] := by simpa [List.getD, hk, hn] using he
      have := List.pairwise_iff_getElem.1 hnd
      rcases Nat.lt_or_gt_of_ne hkn with h' | h'
      · exact this n k hn hk h' e1.symm
      · exact this k n hk hn h' e1
  · rw [List.getElem?_eq_none (by simp; omega)]
    rw [if_neg (by omega), List.getElem?_eq_none (by simp; omega)]

/-- Write's state. -/
def RamS.wr (M : RamS) (rs : List Nat) (a : Nat) (d : List UInt8) : RamS := wrL M rs (pcs a d.length) d
def RamS.rd (M : RamS) (rs : List Nat) (a m : Nat) : List UInt8 := ((pgB M rs).drop a).take m
theorem wr_fr (M : RamS) (rs : List Nat) (a : Nat) (d : List UInt8) : (M.wr rs a d).fr = M.fr := wrL_fr _ _ _ _
theorem wrL_touches (rs : List Nat) : ∀ (ps : List PieceS) (M : RamS) (d : List UInt8), (wrL M rs ps d).touches = M.touches + ps.length
  | [], M, d => by simp [wrL]
  | p :: ps, M, d => by rw [wrL, wrL_touches rs ps]; simp [RamS.write]; omega
theorem wr_all {M : RamS} {rs : List Nat} (hO : RamOk M) (h : RowIn M rs) (hnd : rs.Nodup) {d : List UInt8} {a : Nat} (ham : a + d.length ≤ rs.length * 4096) :
    RamOk (M.wr rs a d) ∧ pgB (M.wr rs a d) rs = spl (pgB M rs) a d ∧ ∀ k, k ∉ rs → (M.wr rs a d).frame k = M.frame k := by
  unfold RamS.wr
  generalize hl : d.length = m at *
  induction m using Nat.strongRecOn generalizing M a d with
  | ind m ih =>
    by_cases h0 : 0 < m
    · have hlt := Nat.mod_lt a (show 0 < 4096 by omega)
      rw [pcs_cons a m h0, wrL]
      dsimp only
      generalize hk : min m (4096 - a % 4096) = k
      have hn : a / 4096 < rs.length := by omega
      have hr := h _ (getD_mem (d := 0) hn)
      have hdl : (d.take k).length = k := by rw [List.length_take]; omega
      have hO1 : RamOk (M.write (rs.getD (a / 4096) 0) (a % 4096) (d.take k)) := hO.write hr (by omega)
      obtain ⟨r1, r2, r3⟩ := ih (m - k) (by omega) (M := M.write (rs.getD (a / 4096) 0) (a % 4096) (d.take k)) hO1 h (d := d.drop k) (a := a + k) (by rw [List.length_drop, hl]) (by omega)
      refine ⟨r1, ?_, fun j hj => ?_⟩
      · rw [r2, write_pgB hO h hnd hn (by omega), show a / 4096 * 4096 + a % 4096 = a by omega]
        have := spl_spl (l := pgB M rs) (i := a) (d := d.take k) (e := d.drop k) (by rw [pgB_length hO h, hdl, List.length_drop]; omega)
        rw [hdl, List.take_append_drop] at this
        exact this
      · rw [r3 j hj, write_frame (by rw [hO.len]; exact hr), if_neg]
        rintro rfl
        exact hj (getD_mem hn)
    · obtain rfl : d = [] := List.eq_nil_of_length_eq_zero (by omega)
      obtain rfl : m = 0 := by omega
      rw [pcs_nil, wrL, spl_nil]
      exact ⟨hO, rfl, fun _ _ => rfl⟩
end Go.Proofs.YtheblkofemobdaaGreat

/-
  Package inner: a zspage.
-/
namespace Go.Proofs.YtheblkofemobdaaGreat
open Go.RowKit

structure PgS where
  set : List Bool
  cls : Nat
  row : List Nat
  first : Nat
def pgObj (q : Nat) (v : Value) (g : PgS) : Obj := .cells #[.pointer (some ⟨q, 0, none⟩), .int .i64 g.cls, v, .int .i64 g.first] 126 (0, 0)
/-- The zspage in block b. -/
def pgH (b : Nat) (g : PgS) : HP := exh fun q : Nat × Value => grp [pts b (pgObj q.1 q.2 g), bset q.1 g.set, row q.2 3 1 g.row.length (ints (nats g.row))]

section
variable {e : Env} {w : World} {R : List HP} {b : Nat} {g : PgS}
theorem pg_open (H : Holds e w (pgH b g :: R)) : ∃ q a c, Holds e w (pts b (pgObj q (.slice a g.row.length c) g) :: bset q g.set :: row (.slice a g.row.length c) 3 1 g.row.length (ints (nats g.row)) :: R) := by
  obtain ⟨⟨q, v⟩, h⟩ := Holds.exE H
  have h2 := h.ungrp
  obtain ⟨a, c, hv⟩ := row_shape h2.p2
  dsimp only at hv
  subst hv
  exact ⟨q, a, c, h2⟩
theorem pg_close {q : Nat} {v : Value} (H : Holds e w (pts b (pgObj q v g) :: bset q g.set :: row v 3 1 g.row.length (ints (nats g.row)) :: R)) : Holds e w (pgH b g :: R) :=
  Holds.mkExh (q, v) (Holds.mkGrp (L := [pts _ _, bset _ _, row _ _ _ _ _]) H)

theorem pgClass (H : Holds e w (pgH b g :: R)) : Calls Tryz.prog 47 #[.pointer (some ⟨b, 0, none⟩)] w (Quiet w (.int .i64 g.cls)) := by
  obtain ⟨q, a, c, h⟩ := pg_open H
  unfold pgObj at h
  have hc := h.cells
  go_enter Tryz.func47, Tryz.ntmps47
  go_wp2
  go_ret
  exact ⟨rfl, 0, rfl⟩
theorem pgUsed (H : Holds e w (pgH b g :: R)) : Calls Tryz.prog 48 #[.pointer (some ⟨b, 0, none⟩)] w (Quiet w (.int .i64 (cnt g.set))) := by
  obtain ⟨q, a, c, h⟩ := pg_open H
  have cl := bsLen_ok h.swap
  unfold pgObj at h
  have hc := h.cells
  go_enter Tryz.func48, Tryz.ntmps48
  go_wp2_with fail
  refine cl.mono ?_
  rintro en w1 ⟨rfl, n1, rfl⟩
  go_wp2
  go_ret
  exact ⟨rfl, _, rfl⟩
theorem pgMany (H : Holds e w (pgH b g :: R)) : Calls Tryz.prog 49 #[.pointer (some ⟨b, 0, none⟩)] w (Quiet w (.int .i64 g.set.length)) := by
  obtain ⟨q, a, c, h⟩ := pg_open H
  have cl := bsSize_ok h.swap
  unfold pgObj at h
  have hc := h.cells
  go_enter Tryz.func49, Tryz.ntmps49
  go_wp2_with fail
  refine cl.mono ?_
  rintro en w1 ⟨rfl, n1, rfl⟩
  go_wp2
  go_ret
  exact ⟨rfl, _, rfl⟩
def PgS.has (g : PgS) (x : Int) : Bool := decide (0 ≤ x) && g.set.getD x.toNat false
theorem pgHas (H : Holds e w (pgH b g :: R)) (x : Int) : Calls Tryz.prog 76 #[.pointer (some ⟨b, 0, none⟩), .int .i64 x] w (Quiet w (.bool (g.has x))) := by
  obtain ⟨q, a, c, h⟩ := pg_open H
  have cl := bsHas_any h.swap x
  unfold pgObj at h
  have hc := h.cells
  unfold PgS.has
  generalize (decide (0 ≤ x) && g.set.getD x.toNat false) = y at *
  go_enter Tryz.func76, Tryz.ntmps76
  go_wp2_with fail
  refine cl.mono ?_
  rintro en w1 ⟨rfl, n1, rfl⟩
  go_wp2
  go_ret
  exact ⟨rfl, _, rfl⟩
theorem pgRow (H : Holds e w (pgH b g :: R)) (hl : g.row.length ≤ 1000) : Calls Tryz.prog 50 #[.pointer (some ⟨b, 0, none⟩)] w (RetEx e (fun v : Value => v) (fun v => row v 3 1 g.row.length (ints (nats g.row)) :: pgH b g :: R)) := by
  obtain ⟨q, a, c, h⟩ := pg_open H
  have cl := Lib.hid (cloneI h _ g.row.length (ints (nats g.row)) (fun u hu => by simp [ints] at hu; obtain ⟨x, _, rfl⟩ := hu; rfl) (by omega) (fun w' h' => row.reads h'.p2))
  unfold pgObj at h
  have hc := h.cells
  clear h H
  go_enter Tryz.func50, Tryz.ntmps50
  go_wp2_with fail
  refine cl.out.mono ?_
  rintro en w1 ⟨v, rfl, H1⟩
  go_wp2_with fail
  go_ret
  exact ⟨v, rfl, (pg_close H1.p3.p3.p3).swap⟩
end
end Go.Proofs.YtheblkofemobdaaGreat

/-
  Package inner: the free list.
-/
namespace Go.Proofs.YtheblkofemobdaaGreat
open Go.RowKit

def csz (c : Nat) : Nat := 64 * (c + 1)
/-- What a zspage is in a RAM. -/
structure PgOk (M : RamS) (g : PgS) : Prop where
  cls : g.cls < 64
  len : g.row.length = cFrames g.cls
  set : g.set.length = cObjects g.cls
  nd : g.row.Nodup
  own : ∀ r ∈ g.row, M.fr.own r = 3
  first : g.first ≤ g.set.length
section
variable {M : RamS} {g : PgS}
theorem PgOk.len4 (h : PgOk M g) : g.row.length ≤ 4 := by rw [h.len]; exact (cFrames_bd _).2
theorem PgOk.set256 (h : PgOk M g) : g.set.length ≤ 256 := by rw [h.set]; exact (cObjects_bd h.cls).2
theorem PgOk.fit (h : PgOk M g) {n m : Nat} (hn : n < g.set.length) (hm : m ≤ csz g.cls) : csz g.cls * n + m ≤ g.row.length * 4096 := by
  have h1 := cObjects_fit g.cls
  have h2 : csz g.cls * (n + 1) ≤ csz g.cls * g.set.length := Nat.mul_le_mul_left _ hn
  rw [Nat.mul_succ] at h2
  rw [h.len]
  rw [h.set] at h2
  unfold csz at *
  rw [Nat.mul_comm (cObjects g.cls)] at h1
  omega
theorem PgOk.z (h : PgOk M g) {n m : Nat} (hn : n < g.set.length) (hm : m ≤ csz g.cls) : ZOk (csz g.cls) n 0 m := by
  have := h.cls
  have := h.set256
  unfold csz at *
  exact ⟨by omega, by omega, by omega, by omega, by omega⟩
theorem PgOk.own0 (h : PgOk M g) : ∀ r ∈ g.row, M.fr.own r ≠ 0 := fun r hr => by rw [h.own r hr]; decide
end

section
variable {e : Env} {w : World} {R : List HP} {b rb : Nat} {g : PgS} {M : RamS}
set_option maxRecDepth 100000 in
set_option maxHeartbeats 4000000 in
theorem pgFree (H : Holds e w (pgH b g :: ramH rb M :: R)) (hO : PgOk M g) {n : Nat} (hn : n < g.set.length) :
    Calls Tryz.prog 78 #[.pointer (some ⟨b, 0, none⟩), .pointer (some ⟨rb, 0, none⟩), .int .i64 n] w
      (Ret e (.tuple #[]) (pgH b { g with first := n + 1 } :: ramH rb (M.wr g.row (csz g.cls * n + 0) (le 2 g.first)) :: R)) := by
  obtain ⟨q, a, c, h⟩ := pg_open H
  have hf := hO.first
  have hs := hO.set256
  have hcl := hO.cls
  have hz : ZOk (csz g.cls) n 0 (le 2 g.first).length := by rw [le_length]; exact hO.z hn (by unfold csz; omega)
  have hft : csz g.cls * n + 0 + (le 2 g.first).length ≤ g.row.length * 4096 := by rw [le_length]; exact hO.fit hn (by unfold csz; omega)
  -- Put, Write
  have hu : Hid (∀ w' blk, Holds e w' (pts blk (.cells #[.int .u64 (IntKind.u64.wrap g.first)] 145 (0, 0)) :: pts b (pgObj q (.slice a g.row.length c) g) :: bset q g.set :: row (.slice a g.row.length c) 3 1 g.row.length (ints (nats g.row)) :: ramH rb M :: R) →
      Calls Tryz.prog 108 #[.int .i64 2, .slice (some ⟨blk, 0, none⟩) 1 1] w' (RetEx e (fun v : Value => v) (fun v => bts v (le 2 g.first) :: pts blk (.cells #[.int .u64 (IntKind.u64.wrap g.first)] 145 (0, 0)) :: pts b (pgObj q (.slice a g.row.length c) g) :: bset q g.set :: row (.slice a g.row.length c) 3 1 g.row.length (ints (nats g.row)) :: ramH rb M :: R))) :=
    Lib.hid fun w' blk h' => by
      have hwx : IntKind.u64.wrap (g.first : Int) = g.first := wrapNat _ (by omega)
      have := numPut_any h' 2 (by omega) (by omega) [g.first] (by simp) (.slice (some ⟨blk, 0, none⟩) 1 1) (fun w' h'' => ⟨rfl, .inr ⟨_, _, rfl, Nat.le_refl _, fun j u hj => by rw [Addr.add_at, Nat.zero_add, h''.cells, hwx]; simpa [u64v] using hj⟩⟩)
      simpa using this
  have hwr : Hid (∀ w' v blk, Holds e w' (bts v (le 2 g.first) :: pts blk (.cells #[.int .u64 (IntKind.u64.wrap g.first)] 145 (0, 0)) :: pts b (pgObj q (.slice a g.row.length c) g) :: bset q g.set :: row (.slice a g.row.length c) 3 1 g.row.length (ints (nats g.row)) :: ramH rb M :: R) →
      Calls Tryz.prog 106 #[.pointer (some ⟨rb, 0, none⟩), .slice a g.row.length c, .int .i64 ((csz g.cls : Nat) : Int), .int .i64 n, .int .i64 0, v] w'
        (Ret e (.bool true) (pts b (pgObj q (.slice a g.row.length c) g) :: bset q g.set :: row (.slice a g.row.length c) 3 1 g.row.length (ints (nats g.row)) :: ramH rb (M.wr g.row (csz g.cls * n + 0) (le 2 g.first)) :: R))) :=
    Lib.hid fun w' v blk h' => (zWrite h'.p5 a c g.row (fun w'' h => row.reads h.p4) hO.len4 (le 2 g.first) v (fun w'' h => bts.reads h) hz hft hO.own0).mono fun en w'' ⟨h1, h2⟩ => ⟨h1, h2.d1.d1.q3⟩
  have hcs : ∀ w, Calls Tryz.prog 94 #[.int .i64 g.cls] w (Quiet w (.int .i64 ((csz g.cls : Nat) : Int))) := fun w => clsSize g.cls hcl
  have HSZ : Hid (∀ w' X, Holds e w' X → Calls Tryz.prog 94 #[.int .i64 g.cls] w' (Ret e (.int .i64 ((csz g.cls : Nat) : Int)) X)) := Lib.hid fun w' X h' => retQ (hcs w') h'
  have HK0 : Hid (∀ w' X, Holds e w' (pts b (pgObj q (.slice a g.row.length c) g) :: X) → w'.cell? ⟨b, 1, none⟩ = some (.int .i64 g.cls) ∧ w'.cell? ⟨b, 2, none⟩ = some (.slice a g.row.length c) ∧ w'.cell? ⟨b, 3, none⟩ = some (.int .i64 g.first)) := Lib.hid fun w' X h' => ⟨h'.cells 1, h'.cells 2, h'.cells 3⟩
  have HKA : Hid (∀ w' o X, Holds e w' (pts b (pgObj q (.slice a g.row.length c) g) :: X) → (w'.alloc o).cell? ⟨b, 1, none⟩ = some (.int .i64 g.cls) ∧ (w'.alloc o).cell? ⟨b, 2, none⟩ = some (.slice a g.row.length c) ∧ (w'.alloc o).cell? ⟨b, 3, none⟩ = some (.int .i64 g.first)) := Lib.hid fun w' o X h' => HK0.out _ _ (h'.alloc o).drop
  have h0 : Holds e w (pts b (pgObj q (.slice a g.row.length c) g) :: bset q g.set :: row (.slice a g.row.length c) 3 1 g.row.length (ints (nats g.row)) :: ramH rb M :: R) := h
  have hd := h0.drawn (w.drawn + 1)
  obtain ⟨k1, k2, k3⟩ := HK0.out _ _ h0
  have hcf : (Value.int .i64 g.first) = .int .i64 (g.first : Int) := rfl
  clear h H hcs hz hft hO
  generalize csz g.cls = sz at *
  generalize le 2 g.first = lf at *
  generalize M.wr g.row (sz * n + 0) lf = M' at *
  go_enter Tryz.func78, Tryz.ntmps78
  go_wp2_with fail
  go_region_held3 (fun w' => w'.cell? ⟨b, 1, none⟩ = some (.int .i64 g.cls) ∧ w'.cell? ⟨b, 2, none⟩ = some (.slice a g.row.length c) ∧ w'.cell? ⟨b, 3, none⟩ = some (.int .i64 g.first))
    (first | exact HK0.out _ _ (by assumption) | exact HKA.out _ _ _ (by assumption) | exact HK0.out _ _ (Holds.drop (by assumption)) | exact HK0.out _ _ (Holds.drop (Holds.drop (by assumption))))
    (first
      | (go_at_call 94; refine (HSZ.out _ _ (by first | assumption | exact Holds.alloc (by assumption) _)).mono ?_; rintro e w4 ⟨rfl, HN⟩)
      | (go_at_call 108; refine (hu.out _ _ (by first | assumption | exact Holds.alloc (by assumption) _)).mono ?_; rintro e w4 ⟨v, rfl, HN⟩)
      | (go_at_call 106; refine (hwr.out _ _ _ (by assumption)).mono ?_; rintro e w4 ⟨rfl, HN⟩))
  all_goals
    clear HK0 HKA HSZ hu hwr h0 hd
    unfold pgObj at HN
    have hcN := HN.cells
    have hfN := HN.frozen
    have H9 := Lib.hid (HN.set 3 (.int .i64 ((n + 1 : Nat) : Int)))
    clear HN
    go_wp2_with fail
    go_end0
    exact ⟨rfl, ((pg_close (g := { g with first := n + 1 }) H9.out))⟩
end
end Go.Proofs.YtheblkofemobdaaGreat

/-
  Package inner: behind, Read, Write.
-/
namespace Go.Proofs.YtheblkofemobdaaGreat
open Go.RowKit

theorem own_lt {F : FrS} {n : Nat} (h : F.own n ≠ 0) : n < F.owner.length := by
  apply Classical.byContradiction
  intro hh
  refine h ?_
  rw [FrS.own, if_pos (Int.natCast_nonneg n), Int.toNat_natCast]
  simp [List.getD, List.getElem?_eq_none (Nat.le_of_not_lt hh)]
def RamS.tk (M : RamS) (a m : Nat) : RamS := M.tch (pcs a m).length
theorem PgOk.rowIn {M : RamS} {g : PgS} (h : PgOk M g) : RowIn M g.row := fun r hr => own_lt (h.own0 r hr)
section
variable {e : Env} {w : World} {R : List HP} {b rb : Nat} {g : PgS} {M : RamS}
theorem rd_length {rs : List Nat} (hO : RamOk M) (h : RowIn M rs) {a m : Nat} (ham : a + m ≤ rs.length * 4096) : (M.rd rs a m).length = m := by
  unfold RamS.rd
  rw [List.length_take, List.length_drop, pgB_length hO h]
  omega
theorem zRd (H : Holds e w (ramH rb M :: R)) (a : Option Addr) (c : Nat) (hr : ∀ w', Holds e w' R → Reads w' (.slice a g.row.length c) 1 g.row.length (ints (nats g.row))) (hO : PgOk M g) {n m : Nat} (hn : n < g.set.length) (hm : m ≤ csz g.cls) :
    Calls Tryz.prog 93 #[.pointer (some ⟨rb, 0, none⟩), .slice a g.row.length c, .int .i64 ((csz g.cls : Nat) : Int), .int .i64 n, .int .i64 0, .int .i64 m] w
      (RetEx e (fun v : Value => .tuple #[v, .bool true]) (fun v => bts v (M.rd g.row (csz g.cls * n + 0) m) :: ramH rb (M.tk (csz g.cls * n + 0) m) :: R)) := by
  have h1 := zRead H a c g.row hr hO.len4 (hO.z hn hm) (by rw [Nat.add_zero]; exact hO.fit hn hm) hO.own0
  rw [rd_flat (ram_ok H).1 hO.rowIn (by rw [Nat.add_zero]; exact hO.fit hn hm)] at h1
  exact h1
set_option maxRecDepth 100000 in
set_option maxHeartbeats 4000000 in
theorem pgBehind (H : Holds e w (pgH b g :: ramH rb M :: R)) (hO : PgOk M g) {n : Nat} (hn : n < g.set.length) :
    Calls Tryz.prog 104 #[.pointer (some ⟨b, 0, none⟩), .pointer (some ⟨rb, 0, none⟩), .int .i64 n] w
      (Ret e (.int .i64 ((unle (M.rd g.row (csz g.cls * n + 0) 2) : Nat) : Int)) (pgH b g :: ramH rb (M.tk (csz g.cls * n + 0) 2) :: R)) := by
  obtain ⟨q, a, c, h⟩ := pg_open H
  have hs := hO.set256
  have hcl := hO.cls
  have hlen : (M.rd g.row (csz g.cls * n + 0) 2).length = 2 := rd_length (ram_ok H.swap).1 hO.rowIn (by rw [Nat.add_zero]; exact hO.fit hn (by unfold csz; omega))
  have hult := unle_lt (M.rd g.row (csz g.cls * n + 0) 2)
  rw [hlen] at hult
  have HRD : Hid (∀ w', Holds e w' (pts b (pgObj q (.slice a g.row.length c) g) :: bset q g.set :: row (.slice a g.row.length c) 3 1 g.row.length (ints (nats g.row)) :: ramH rb M :: R) →
      Calls Tryz.prog 93 #[.pointer (some ⟨rb, 0, none⟩), .slice a g.row.length c, .int .i64 ((csz g.cls : Nat) : Int), .int .i64 n, .int .i64 0, .int .i64 2] w'
        (RetEx e (fun v : Value => .tuple #[v, .bool true]) (fun v => pts b (pgObj q (.slice a g.row.length c) g) :: bts v (M.rd g.row (csz g.cls * n + 0) 2) :: bset q g.set :: row (.slice a g.row.length c) 3 1 g.row.length (ints (nats g.row)) :: ramH rb (M.tk (csz g.cls * n + 0) 2) :: R))) :=
    Lib.hid fun w' h' => (zRd (m := 2) h'.p3 a c (fun w'' h => row.reads h.p2) hO hn (by unfold csz; omega)).mono fun en w'' ⟨v, h1, h2⟩ => ⟨v, h1, by
      have h3 := h2.p2
      exact h3.cons fun _ s => Sat.cons (fun _ s => Sat.q2 s) s⟩
  have hcs : ∀ w, Calls Tryz.prog 94 #[.int .i64 g.cls] w (Quiet w (.int .i64 ((csz g.cls : Nat) : Int))) := fun w => clsSize g.cls hcl
  have HSZ : Hid (∀ w' X, Holds e w' X → Calls Tryz.prog 94 #[.int .i64 g.cls] w' (Ret e (.int .i64 ((csz g.cls : Nat) : Int)) X)) := Lib.hid fun w' X h' => retQ (hcs w') h'
  have HK0 : Hid (∀ w' X, Holds e w' (pts b (pgObj q (.slice a g.row.length c) g) :: X) → w'.cell? ⟨b, 1, none⟩ = some (.int .i64 g.cls) ∧ w'.cell? ⟨b, 2, none⟩ = some (.slice a g.row.length c)) := Lib.hid fun w' X h' => ⟨h'.cells 1, h'.cells 2⟩
  have HGET : Hid (∀ w' X v, Holds e w' (bts v (M.rd g.row (csz g.cls * n + 0) 2) :: X) → Calls Tryz.prog 121 #[v, .int .i64 0, .int .i64 2] w' (Ret e (.tuple #[.int .u64 (unle (M.rd g.row (csz g.cls * n + 0) 2)), .bool true]) (bts v (M.rd g.row (csz g.cls * n + 0) 2) :: X))) :=
    Lib.hid fun w' X v h' => by
      have := numGet_any h' 2 (by omega) (by omega) (M.rd g.row (csz g.cls * n + 0) 2) 0 (by omega) (by omega) v (fun w'' h'' => bts.reads h'')
      rw [List.drop_zero, List.take_of_length_le (by omega)] at this
      exact this
  have h0 : Holds e w (pts b (pgObj q (.slice a g.row.length c) g) :: bset q g.set :: row (.slice a g.row.length c) 3 1 g.row.length (ints (nats g.row)) :: ramH rb M :: R) := h
  have hd := h0.drawn (w.drawn + 1)
  obtain ⟨k1, k2⟩ := HK0.out _ _ h0
  clear h H hcs hO hlen
  generalize M.tk (csz g.cls * n + 0) 2 = M' at *
  generalize M.rd g.row (csz g.cls * n + 0) 2 = bs at *
  generalize csz g.cls = sz at *
  generalize unle bs = u at *
  go_enter Tryz.func104, Tryz.ntmps104
  go_wp2_with fail
  go_region_held3 (fun w' => w'.cell? ⟨b, 1, none⟩ = some (.int .i64 g.cls) ∧ w'.cell? ⟨b, 2, none⟩ = some (.slice a g.row.length c))
    (exact HK0.out _ _ (by assumption))
    (first
      | (go_at_call 94; refine (HSZ.out _ _ (by assumption)).mono ?_; rintro e w4 ⟨rfl, HN⟩)
      | (go_at_call 93; refine (HRD.out _ (by assumption)).mono ?_; rintro e w4 ⟨v, rfl, HN⟩))
  all_goals
    have HN2 := HN.swap
    clear HK0 HSZ HRD h0 hd HN
    go_wp2_with fail
    refine (HGET.out _ _ _ HN2).mono ?_
    rintro e w5 ⟨rfl, H5⟩
    go_wp2_with fail
    go_ret
    exact ⟨rfl, pg_close H5.drop⟩
end
end Go.Proofs.YtheblkofemobdaaGreat

/-
  Package inner: Take, Give, Read, Write.
-/
namespace Go.Proofs.YtheblkofemobdaaGreat
open Go.RowKit

theorem PgS.has_nat (g : PgS) (n : Nat) : g.has (n : Int) = g.set.getD n false := by
  unfold PgS.has
  rw [decide_eq_true (Int.natCast_nonneg n), Bool.true_and, Int.toNat_natCast]
section
variable {e : Env} {w : World} {R : List HP} {b rb : Nat} {g : PgS} {M : RamS}
set_option maxRecDepth 100000 in
set_option maxHeartbeats 1000000 in
theorem pgTake_yes (H : Holds e w (pgH b g :: ramH rb M :: R)) (hO : PgOk M g) {n : Nat} (hf : g.first = n + 1) (hn : n < g.set.length) (hx : g.set.getD n false = false) :
    Calls Tryz.prog 74 #[.pointer (some ⟨b, 0, none⟩), .pointer (some ⟨rb, 0, none⟩)] w
      (Ret e (.tuple #[.int .i64 n, .bool true]) (pgH b { g with set := g.set.set n true, first := unle (M.rd g.row (csz g.cls * n + 0) 2) } :: ramH rb (M.tk (csz g.cls * n + 0) 2) :: R)) := by
  have hs := hO.set256
  have CB := Lib.hid (pgBehind H hO hn)
  have hc : w.cell? ⟨b, 3, none⟩ = some (.int .i64 ((n : Int) + 1)) := by
    obtain ⟨q, a, c, h⟩ := pg_open H
    have := h.cells 3
    rw [this]
    show some (Value.int .i64 (g.first : Int)) = _
    rw [hf]; rfl
  have hnz : (((n : Int) + 1) == 0) = false := by simp; omega
  clear H
  generalize M.tk (csz g.cls * n + 0) 2 = M' at *
  generalize unle (M.rd g.row (csz g.cls * n + 0) 2) = u at *
  go_enter Tryz.func74, Tryz.ntmps74
  go_wp2_with fail
  refine CB.out.mono ?_
  rintro en w1 ⟨rfl, H1⟩
  obtain ⟨q, a, c, h⟩ := pg_open H1
  unfold pgObj at h
  have h2 := h.set 3 (.int .i64 u)
  have hc0 := h.cells
  have hf0 := h.frozen
  have CP := Lib.hid (bsPut_yes h2.swap n hn hx)
  clear h h2 H1 CB hc
  go_wp2_with fail
  refine CP.out.mono ?_
  rintro en w2 ⟨rfl, H3⟩
  go_wp2_with fail
  go_ret2
  exact ⟨rfl, pg_close (g := { g with set := g.set.set n true, first := u }) H3.swap⟩
set_option maxRecDepth 100000 in
set_option maxHeartbeats 1000000 in
theorem pgGive_yes (H : Holds e w (pgH b g :: ramH rb M :: R)) (hO : PgOk M g) {n : Nat} (hn : n < g.set.length) (hx : g.set.getD n false = true) :
    Calls Tryz.prog 45 #[.pointer (some ⟨b, 0, none⟩), .pointer (some ⟨rb, 0, none⟩), .int .i64 n] w
      (Ret e (.bool true) (pgH b { g with set := g.set.set n false, first := n + 1 } :: ramH rb (M.wr g.row (csz g.cls * n + 0) (le 2 g.first)) :: R)) := by
  have hs := hO.set256
  have hhas : g.has n = true := by rw [PgS.has_nat, hx]
  have CH := pgHas H n
  rw [hhas] at CH
  have hO2 : PgOk M { g with set := g.set.set n false } := ⟨hO.cls, hO.len, by simpa using hO.set, hO.nd, hO.own, by simpa using hO.first⟩
  have hn2 : n < (g.set.set n false).length := by simpa using hn
  have HF : Hid (∀ w', Holds e w' (pgH b { g with set := g.set.set n false } :: ramH rb M :: R) → Calls Tryz.prog 78 #[.pointer (some ⟨b, 0, none⟩), .pointer (some ⟨rb, 0, none⟩), .int .i64 n] w' (Ret e (.tuple #[]) (pgH b { g with set := g.set.set n false, first := n + 1 } :: ramH rb (M.wr g.row (csz g.cls * n + 0) (le 2 g.first)) :: R))) :=
    Lib.hid fun w' h' => pgFree h' hO2 hn2
  generalize M.wr g.row (csz g.cls * n + 0) (le 2 g.first) = M' at *
  go_enter Tryz.func45, Tryz.ntmps45
  go_wp2_with fail
  refine CH.mono ?_
  rintro en w1 ⟨rfl, n1, rfl⟩
  obtain ⟨q, a, c, h⟩ := pg_open (H.drewN n1)
  have CD := Lib.hid (bsDrop_yes h.swap n hn hx)
  unfold pgObj at h
  have hc0 := h.cells
  clear h H CH
  go_wp2_with fail
  refine CD.out.mono ?_
  rintro en w2 ⟨rfl, H3⟩
  have H4 := pg_close (g := { g with set := g.set.set n false }) H3.swap
  clear H3 CD hc0
  go_wp2_with fail
  refine (HF.out _ H4).mono ?_
  rintro en w3 ⟨rfl, H5⟩
  go_wp2_with fail
  go_ret
  exact ⟨rfl, H5⟩
set_option maxRecDepth 100000 in
set_option maxHeartbeats 4000000 in
theorem pgRead_yes (H : Holds e w (pgH b g :: ramH rb M :: R)) (hO : PgOk M g) {n m : Nat} (hn : n < g.set.length) (hx : g.set.getD n false = true) (hm : m ≤ csz g.cls) :
    Calls Tryz.prog 58 #[.pointer (some ⟨b, 0, none⟩), .pointer (some ⟨rb, 0, none⟩), .int .i64 n, .int .i64 m] w
      (RetEx e (fun v : Value => .tuple #[v, .bool true]) (fun v => bts v (M.rd g.row (csz g.cls * n + 0) m) :: pgH b g :: ramH rb (M.tk (csz g.cls * n + 0) m) :: R)) := by
  have hhas : g.has n = true := by rw [PgS.has_nat, hx]
  have CH := pgHas H n
  rw [hhas] at CH
  obtain ⟨q, a, c, h⟩ := pg_open H
  have hs := hO.set256
  have hcl := hO.cls
  have hm4 : m ≤ 4096 := by unfold csz at hm; omega
  have HRD : Hid (∀ w', Holds e w' (pts b (pgObj q (.slice a g.row.length c) g) :: bset q g.set :: row (.slice a g.row.length c) 3 1 g.row.length (ints (nats g.row)) :: ramH rb M :: R) →
      Calls Tryz.prog 93 #[.pointer (some ⟨rb, 0, none⟩), .slice a g.row.length c, .int .i64 ((csz g.cls : Nat) : Int), .int .i64 n, .int .i64 0, .int .i64 m] w'
        (RetEx e (fun v : Value => .tuple #[v, .bool true]) (fun v => pts b (pgObj q (.slice a g.row.length c) g) :: bts v (M.rd g.row (csz g.cls * n + 0) m) :: bset q g.set :: row (.slice a g.row.length c) 3 1 g.row.length (ints (nats g.row)) :: ramH rb (M.tk (csz g.cls * n + 0) m) :: R))) :=
    Lib.hid fun w' h' => (zRd (m := m) h'.p3 a c (fun w'' h => row.reads h.p2) hO hn hm).mono fun en w'' ⟨v, h1, h2⟩ => ⟨v, h1, by
      have h3 := h2.p2
      exact h3.cons fun _ s => Sat.cons (fun _ s => Sat.q2 s) s⟩
  have hcs : ∀ w, Calls Tryz.prog 94 #[.int .i64 g.cls] w (Quiet w (.int .i64 ((csz g.cls : Nat) : Int))) := fun w => clsSize g.cls hcl
  have HSZ : Hid (∀ w' X, Holds e w' X → Calls Tryz.prog 94 #[.int .i64 g.cls] w' (Ret e (.int .i64 ((csz g.cls : Nat) : Int)) X)) := Lib.hid fun w' X h' => retQ (hcs w') h'
  have HK0 : Hid (∀ w' X, Holds e w' (pts b (pgObj q (.slice a g.row.length c) g) :: X) → w'.cell? ⟨b, 1, none⟩ = some (.int .i64 g.cls) ∧ w'.cell? ⟨b, 2, none⟩ = some (.slice a g.row.length c)) := Lib.hid fun w' X h' => ⟨h'.cells 1, h'.cells 2⟩
  have h0 : Holds e w (pts b (pgObj q (.slice a g.row.length c) g) :: bset q g.set :: row (.slice a g.row.length c) 3 1 g.row.length (ints (nats g.row)) :: ramH rb M :: R) := h
  clear h H hcs hO hx hm
  generalize M.tk (csz g.cls * n + 0) m = M' at *
  generalize M.rd g.row (csz g.cls * n + 0) m = bs at *
  generalize csz g.cls = sz at *
  go_enter Tryz.func58, Tryz.ntmps58
  go_wp2_with fail
  refine CH.mono ?_
  rintro en w1 ⟨rfl, n1, rfl⟩
  have h1 := h0.drewN n1
  have hd := h1.drawn ((w.drewN n1).drawn + 1)
  obtain ⟨k1, k2⟩ := HK0.out _ _ h1
  clear h0 CH
  generalize w.drewN n1 = w1 at *
  go_wp2_with fail
  go_region_held3 (fun w' => w'.cell? ⟨b, 1, none⟩ = some (.int .i64 g.cls) ∧ w'.cell? ⟨b, 2, none⟩ = some (.slice a g.row.length c))
    (exact HK0.out _ _ (by assumption))
    (first
      | (go_at_call 94; refine (HSZ.out _ _ (by assumption)).mono ?_; rintro e w4 ⟨rfl, HN⟩)
      | (go_at_call 93; refine (HRD.out _ (by assumption)).mono ?_; rintro e w4 ⟨v, rfl, HN⟩))
  all_goals
    have HN2 := (pg_close (HN.cons fun _ => Sat.q2)).swap
    clear HK0 HSZ HRD h1 hd HN
    go_wp2_with fail
    go_ret2
    exact ⟨v, rfl, HN2⟩
theorem pgRead_no (H : Holds e w (pgH b g :: R)) {x : Int} (hx : g.has x = false) (rv : Value) (m : Int) :
    Calls Tryz.prog 58 #[.pointer (some ⟨b, 0, none⟩), rv, .int .i64 x, .int .i64 m] w (Quiet w (.tuple #[.slice none 0 0, .bool false])) := by
  have CH := pgHas H x
  rw [hx] at CH
  go_enter Tryz.func58, Tryz.ntmps58
  go_wp2_with fail
  refine CH.mono ?_
  rintro en w1 ⟨rfl, n1, rfl⟩
  go_wp2_with fail
  go_ret2
  exact ⟨rfl, _, rfl⟩
end
end Go.Proofs.YtheblkofemobdaaGreat

/-
  Package inner: Write, Close, Make.
-/
namespace Go.Proofs.YtheblkofemobdaaGreat
open Go.RowKit

section
variable {e : Env} {w : World} {R : List HP} {b rb : Nat} {g : PgS} {M : RamS}
set_option maxRecDepth 100000 in
set_option maxHeartbeats 4000000 in
theorem pgWrite_yes (H : Holds e w (pgH b g :: ramH rb M :: R)) (hO : PgOk M g) {n : Nat} (hn : n < g.set.length) (hx : g.set.getD n false = true) (vd : Value) (d : List UInt8) (hd : ∀ w', Holds e w' R → RdB w' vd d) (hm : d.length ≤ csz g.cls) :
    Calls Tryz.prog 75 #[.pointer (some ⟨b, 0, none⟩), .pointer (some ⟨rb, 0, none⟩), .int .i64 n, vd] w
      (Ret e (.bool true) (pgH b g :: ramH rb (M.wr g.row (csz g.cls * n + 0) d) :: R)) := by
  have hhas : g.has n = true := by rw [PgS.has_nat, hx]
  have HH : Hid (∀ w' X, Holds e w' (pgH b g :: X) → Calls Tryz.prog 76 #[.pointer (some ⟨b, 0, none⟩), .int .i64 n] w' (Quiet w' (.bool true))) := Lib.hid fun w' X h' => by
    have := pgHas h' n
    rwa [hhas] at this
  obtain ⟨q, a, c, h⟩ := pg_open H
  have hs := hO.set256
  have hcl := hO.cls
  have hft : csz g.cls * n + 0 + d.length ≤ g.row.length * 4096 := by rw [Nat.add_zero]; exact hO.fit hn hm
  have HHAS : Hid (∀ w', Holds e w' (pts b (pgObj q (.slice a g.row.length c) g) :: bset q g.set :: row (.slice a g.row.length c) 3 1 g.row.length (ints (nats g.row)) :: ramH rb M :: R) → Calls Tryz.prog 76 #[.pointer (some ⟨b, 0, none⟩), .int .i64 n] w' (Ret e (.bool true) (pts b (pgObj q (.slice a g.row.length c) g) :: bset q g.set :: row (.slice a g.row.length c) 3 1 g.row.length (ints (nats g.row)) :: ramH rb M :: R))) :=
    Lib.hid fun w' h' => retQ (HH.out _ _ (pg_close h')) h'
  have hwr : Hid (∀ w', Holds e w' (pts b (pgObj q (.slice a g.row.length c) g) :: bset q g.set :: row (.slice a g.row.length c) 3 1 g.row.length (ints (nats g.row)) :: ramH rb M :: R) →
      Calls Tryz.prog 106 #[.pointer (some ⟨rb, 0, none⟩), .slice a g.row.length c, .int .i64 ((csz g.cls : Nat) : Int), .int .i64 n, .int .i64 0, vd] w'
        (Ret e (.bool true) (pts b (pgObj q (.slice a g.row.length c) g) :: bset q g.set :: row (.slice a g.row.length c) 3 1 g.row.length (ints (nats g.row)) :: ramH rb (M.wr g.row (csz g.cls * n + 0) d) :: R))) :=
    Lib.hid fun w' h' => (zWrite h'.p3 a c g.row (fun w'' h => row.reads h.p2) hO.len4 d vd (fun w'' h => hd _ h.drop.drop.drop) (hO.z hn hm) hft hO.own0).mono fun en w'' ⟨h1, h2⟩ => ⟨h1, h2.q3⟩
  have hcs : ∀ w, Calls Tryz.prog 94 #[.int .i64 g.cls] w (Quiet w (.int .i64 ((csz g.cls : Nat) : Int))) := fun w => clsSize g.cls hcl
  have HSZ : Hid (∀ w' X, Holds e w' X → Calls Tryz.prog 94 #[.int .i64 g.cls] w' (Ret e (.int .i64 ((csz g.cls : Nat) : Int)) X)) := Lib.hid fun w' X h' => retQ (hcs w') h'
  have HK0 : Hid (∀ w' X, Holds e w' (pts b (pgObj q (.slice a g.row.length c) g) :: X) → w'.cell? ⟨b, 1, none⟩ = some (.int .i64 g.cls) ∧ w'.cell? ⟨b, 2, none⟩ = some (.slice a g.row.length c)) := Lib.hid fun w' X h' => ⟨h'.cells 1, h'.cells 2⟩
  obtain ⟨va, vc, rfl⟩ := (hd _ H.drop.drop).shape
  have h0 : Holds e w (pts b (pgObj q (.slice a g.row.length c) g) :: bset q g.set :: row (.slice a g.row.length c) 3 1 g.row.length (ints (nats g.row)) :: ramH rb M :: R) := h
  have hdw := h0.drawn (w.drawn + 1)
  obtain ⟨k1, k2⟩ := HK0.out _ _ h0
  clear h H hcs hO hx hm HH hd hhas hft
  generalize M.wr g.row (csz g.cls * n + 0) d = M' at *
  generalize csz g.cls = sz at *
  go_enter Tryz.func75, Tryz.ntmps75
  go_wp2_with fail
  go_region_held3 (fun w' => w'.cell? ⟨b, 1, none⟩ = some (.int .i64 g.cls) ∧ w'.cell? ⟨b, 2, none⟩ = some (.slice a g.row.length c))
    (exact HK0.out _ _ (by assumption))
    (first
      | (go_at_call 94; refine (HSZ.out _ _ (by assumption)).mono ?_; rintro e w4 ⟨rfl, HN⟩)
      | (go_at_call 76; refine (HHAS.out _ (by assumption)).mono ?_; rintro e w4 ⟨rfl, HN⟩)
      | (go_at_call 106; refine (hwr.out _ (by assumption)).mono ?_; rintro e w4 ⟨rfl, HN⟩))
  all_goals
    have HN2 := pg_close HN
    clear HK0 HSZ hwr HHAS h0 hdw HN
    go_wp2_with fail
    go_ret
    exact ⟨rfl, HN2⟩
end

def RamS.giveL (M : RamS) (rs : List Nat) : RamS := rs.foldl RamS.give M
theorem giveL_snoc (M : RamS) (rs : List Nat) (n : Nat) : M.giveL (rs ++ [n]) = (M.giveL rs).give n := by simp [RamS.giveL]
theorem give_own {M : RamS} {n : Nat} (hn : n < M.fr.owner.length) (k : Nat) : (M.give n).fr.own k = if k = n then 0 else M.fr.own k := by
  unfold RamS.give FrS.give FrS.own
  rw [if_pos (Int.natCast_nonneg k), if_pos (Int.natCast_nonneg k), Int.toNat_natCast]
  exact getD_set hn
theorem giveL_len (rs : List Nat) : ∀ M : RamS, (M.giveL rs).fr.owner.length = M.fr.owner.length := by
  induction rs with
  | nil => intro M; rfl
  | cons n rs ih => intro M; show (RamS.giveL (M.give n) rs).fr.owner.length = _; rw [ih]; simp [RamS.give, FrS.give]
theorem giveL_own {rs : List Nat} : ∀ {M : RamS}, (∀ r ∈ rs, r < M.fr.owner.length) → ∀ k : Nat, (M.giveL rs).fr.own k = if k ∈ rs then 0 else M.fr.own k := by
  induction rs with
  | nil => intro M _ k; simp [RamS.giveL]
  | cons n rs ih =>
    intro M h k
    show (RamS.giveL (M.give n) rs).fr.own k = _
    rw [ih (M := M.give n) (fun r hr => by simpa [RamS.give, FrS.give] using h r (by simp [hr])), give_own (h n (by simp))]
    by_cases hk : k = n
    · subst hk; simp
    · simp [hk]
section
variable {e : Env} {w : World} {R : List HP} {b rb : Nat} {g : PgS} {M : RamS}
set_option maxRecDepth 100000 in
set_option maxHeartbeats 1000000 in
theorem pgClose (H : Holds e w (pgH b g :: ramH rb M :: R)) (hl : g.row.length ≤ 4) (hnd : g.row.Nodup) (hown : ∀ r ∈ g.row, M.fr.own r ≠ 0) (hu : cnt g.set = 0) :
    Calls Tryz.prog 81 #[.pointer (some ⟨b, 0, none⟩), .pointer (some ⟨rb, 0, none⟩)] w (Ret e (.bool true) (ramH rb (M.giveL g.row) :: R)) := by
  have CU := pgUsed H
  rw [hu] at CU
  go_enter Tryz.func81, Tryz.ntmps81
  go_wp2_with fail
  refine CU.mono ?_
  rintro en w1 ⟨rfl, n1, rfl⟩
  obtain ⟨q, a, c, h⟩ := pg_open (H.drewN n1)
  unfold pgObj at h
  have hc := h.cells
  have HH : Holds e (w.drewN n1) (ramH rb (M.giveL (g.row.take 0)) :: pts b (.cells #[.pointer (some ⟨q, 0, none⟩), .int .i64 g.cls, .slice a g.row.length c, .int .i64 g.first] 126 (0, 0)) :: row (.slice a g.row.length c) 3 1 g.row.length (ints (nats g.row)) :: R) := by
    exact h.d1.p2
  clear h H CU
  generalize w.drewN n1 = w1 at *
  go_wp2_with fail
  go_loopw [23] (fun i wr => ∃ k, k ≤ g.row.length ∧ i = .int .i64 (k : Nat) ∧ Holds e wr (ramH rb (M.giveL (g.row.take k)) :: pts b (.cells #[.pointer (some ⟨q, 0, none⟩), .int .i64 g.cls, .slice a g.row.length c, .int .i64 g.first] 126 (0, 0)) :: row (.slice a g.row.length c) 3 1 g.row.length (ints (nats g.row)) :: R)) (fun i _ => g.row.length - (intOf i).toNat)
  case atStart => exact ⟨0, by omega, rfl, HH⟩
  case round =>
    obtain ⟨k, hk, rfl, HX⟩ := hrel
    by_cases hlt : k < g.row.length
    · obtain ⟨n, hn⟩ : ∃ n, g.row.getD k 0 = n := ⟨_, rfl⟩
      have hgn : g.row[k]? = some n := by rw [get_getD (d := 0) hlt, hn]
      have hm : n ∈ g.row := List.mem_of_getElem? hgn
      have hnt : n ∉ g.row.take k := fun hh => by
        obtain ⟨j, hj⟩ := List.mem_iff_getElem?.1 hh
        obtain ⟨h1, h2⟩ := take_get hj
        obtain ⟨i1, i2⟩ := List.getElem?_eq_some_iff.1 h1
        obtain ⟨j1, j2⟩ := List.getElem?_eq_some_iff.1 hgn
        exact List.pairwise_iff_getElem.1 hnd j k i1 j1 h2 (by rw [i2, j2])
      have hon : (M.giveL (g.row.take k)).fr.own n ≠ 0 := by
        rw [giveL_own (fun r hr => own_lt (hown r (List.mem_of_mem_take hr))), if_neg hnt]
        exact hown n hm
      have HTK : Hid (M.giveL (g.row.take (k + 1)) = (M.giveL (g.row.take k)).give n) := Lib.hid (by rw [List.take_add_one, hgn]; exact giveL_snoc _ _ _)
      obtain ⟨gg, o, hga, hrd⟩ := (row.reads HX.p2).at (by omega)
      subst hga
      have q0 : wr.cell? ⟨gg, o + k, none⟩ = some (.int .i64 n) := hrd k _ (by rw [ints_get (get_getD (d := 0) (by simpa using hlt)), nats_getD, hn])
      generalize M.giveL (g.row.take k) = M1 at *
      obtain ⟨f, fm, hO, HY⟩ := ram_open HX
      have q1 := HY.cells 0
      have CG := Lib.hid (frGive_yes HY.swap n hon)
      have HO := Lib.hid (hO.give n)
      clear hrd hn hgn HX HY hc HH hO
      go_wp2_with fail
      refine CG.out.mono ?_
      rintro en w2 ⟨rfl, H2⟩
      have H3 := ram_close (M := M1.give n) (n := M1.fr.owner.length) HO.out (by simp [RamS.give, FrS.give]) H2.swap
      clear H2 CG HO
      go_wp2_with fail
      go_roundw
      case rel => exact ⟨k + 1, by omega, by go_num, by rw [HTK.out]; exact H3⟩
      case measure => simp [intOf]; omega
    · obtain rfl : k = g.row.length := by omega
      rw [List.take_length] at HX
      have HB := HX.swap
      clear HX HH hc
      have CN := Lib.hid (bsNew HB 0 (by omega))
      go_wp2_with fail
      refine CN.out.mono ?_
      rintro en w2 ⟨bs, rfl, H2⟩
      have H3 := H2.swap
      have hc3 := H3.cells
      have hf3 := H3.frozen
      have H4 := Lib.hid (((H3.set 2 (.slice none 0 0)).set 3 (.int .i64 0)).set 0 (.pointer (some ⟨bs, 0, none⟩)))
      clear H2 H3 HB CN
      go_wp2_with fail
      go_ret
      exact ⟨rfl, H4.out.drop.drop.d1⟩
end
end Go.Proofs.YtheblkofemobdaaGreat

/-
  Frames taken one behind the other; the free list of a zspage. No program in sight.
-/
namespace Go.Proofs.YtheblkofemobdaaGreat
open Go.RowKit

def RamS.takeK (M : RamS) : Nat → RamS × List Nat
  | 0 => (M, [])
  | k + 1 => ((M.takeK k).1.take 3 (M.takeK k).1.fr.free.dropLast ((M.takeK k).1.fr.free.getLastD 0), (M.takeK k).2 ++ [(M.takeK k).1.fr.free.getLastD 0])
theorem last_split {l : List Nat} (h : 0 < l.length) : l = l.dropLast ++ [l.getLastD 0] := by
  cases l with
  | nil => cases h
  | cons a l =>
    have := List.dropLast_concat_getLast (l := a :: l) (by simp)
    rw [List.getLastD_cons, ← List.getLast_eq_getLastD]
    exact this.symm
theorem last_mem {l : List Nat} (h : 0 < l.length) : l.getLastD 0 ∈ l := by
  have h2 : l.getLastD 0 ∈ l.dropLast ++ [l.getLastD 0] := by simp
  rwa [← last_split h] at h2
theorem take_own {M : RamS} {n : Nat} {L : List Nat} (hn : n < M.fr.owner.length) (k : Nat) : (M.take 3 L n).fr.own k = if k = n then 3 else M.fr.own k := by
  unfold RamS.take FrS.own
  rw [if_pos (Int.natCast_nonneg k), if_pos (Int.natCast_nonneg k), Int.toNat_natCast]
  exact getD_set hn
theorem take_frame {M : RamS} {n : Nat} {L : List Nat} (hn : n < M.mem.length) (k : Nat) : (M.take 3 L n).frame k = if k = n then zeros else M.frame k := by
  unfold RamS.take RamS.frame
  exact getD_set hn
structure Taken (M : RamS) (k : Nat) (p : RamS × List Nat) : Prop where
  ok : RamOk p.1
  fok : FrOk p.1.fr
  free : M.fr.free = p.1.fr.free ++ p.2.reverse
  len : p.2.length = k
  olen : p.1.fr.owner.length = M.fr.owner.length
  own : ∀ j : Nat, p.1.fr.own j = if j ∈ p.2 then 3 else M.fr.own j
  frame : ∀ j : Nat, p.1.frame j = if j ∈ p.2 then zeros else M.frame j
  touches : p.1.touches = M.touches
theorem takeK_taken {M : RamS} (hO : RamOk M) (hF : FrOk M.fr) : ∀ {k : Nat}, k ≤ M.fr.free.length → Taken M k (M.takeK k)
  | 0, _ => ⟨hO, hF, by simp [RamS.takeK], rfl, rfl, by simp [RamS.takeK], by simp [RamS.takeK], rfl⟩
  | k + 1, hk => by
    have h := takeK_taken hO hF (k := k) (by omega)
    have hfl : 0 < (M.takeK k).1.fr.free.length := by
      have := congrArg List.length h.free
      rw [List.length_append, List.length_reverse, h.len] at this
      omega
    have hs := last_split hfl
    have hn := (h.fok.mem ((M.takeK k).1.fr.free.getLastD 0)).1 (last_mem hfl)
    unfold RamS.takeK
    generalize (M.takeK k).1.fr.free.getLastD 0 = n at *
    generalize (M.takeK k).1.fr.free.dropLast = L at *
    have hfr := h.free
    rw [hs] at hfr
    refine ⟨h.ok.take 3 L n, h.fok.take hs (by decide) (by decide), ?_, ?_, ?_, fun j => ?_, fun j => ?_, h.touches⟩
    · rw [hfr]; simp [RamS.take]
    · simp [h.len]
    · simpa [RamS.take] using h.olen
    · dsimp only
      rw [take_own hn.1, h.own j]
      by_cases hj : j = n
      · subst hj; simp
      · simp [hj]
    · dsimp only
      rw [take_frame (by rw [h.ok.len]; exact hn.1), h.frame j]
      by_cases hj : j = n
      · subst hj; simp
      · simp [hj]
theorem Taken.mem {M : RamS} {k : Nat} {p : RamS × List Nat} (h : Taken M k p) {r : Nat} (hr : r ∈ p.2) : r ∈ M.fr.free := by
  rw [h.free]; simp [hr]
theorem Taken.nd {M : RamS} {k : Nat} {p : RamS × List Nat} (h : Taken M k p) (hF : FrOk M.fr) : p.2.Nodup := by
  have := hF.nd
  rw [h.free, List.nodup_append] at this
  exact (List.pairwise_reverse.1 this.2.1).imp fun h => h.symm
theorem free_count {F : FrS} (h : FrOk F) : F.count [0] = F.free.length := by
  have h1 : F.free.Perm ((List.range F.owner.length).filter fun i => decide (F.owner.getD i 0 = 0)) := by
    refine (List.perm_ext_iff_of_nodup h.nd (List.Pairwise.filter _ List.nodup_range)).2 fun i => ?_
    rw [h.mem i, List.mem_filter, List.mem_range, decide_eq_true_eq]
  rw [h1.length_eq]
  unfold FrS.count
  have h2 : F.owner = (List.range F.owner.length).map fun i => F.owner.getD i 0 := by
    apply List.ext_getElem
    · simp
    · intro i h1 h2; simp [List.getD, h1]
  conv => lhs; rw [h2]
  rw [List.filter_map, List.length_map]
  congr 1
  apply List.filter_congr
  intro i _
  simp

/-- The objects freed one behind the other, the last one first: the RAM, and the first free one, and 1. -/
def frK (M : RamS) (rs : List Nat) (sz N : Nat) : Nat → RamS × Nat
  | 0 => (M, 0)
  | t + 1 => ((frK M rs sz N t).1.wr rs (sz * (N - (t + 1)) + 0) (le 2 (frK M rs sz N t).2), N - (t + 1) + 1)
theorem frK_fr (M : RamS) (rs : List Nat) (sz N : Nat) : ∀ t, (frK M rs sz N t).1.fr = M.fr
  | 0 => rfl
  | t + 1 => by unfold frK; rw [wr_fr, frK_fr M rs sz N t]

/-- f tells the list L of free objects, as the bytes tell it. -/
def Chain (M : RamS) (rs : List Nat) (sz : Nat) : List Nat → Nat → Prop
  | [], f => f = 0
  | n :: L, f => f = n + 1 ∧ Chain M rs sz L (unle (M.rd rs (sz * n + 0) 2))
theorem Chain.congr {M M' : RamS} {rs : List Nat} {sz : Nat} : ∀ {L : List Nat} {f : Nat}, Chain M rs sz L f → (∀ n ∈ L, M'.rd rs (sz * n + 0) 2 = M.rd rs (sz * n + 0) 2) → Chain M' rs sz L f
  | [], _, h, _ => h
  | n :: L, f, h, hh => ⟨h.1, by rw [hh n (by simp)]; exact Chain.congr h.2 fun m hm => hh m (by simp [hm])⟩
theorem obj_apart {sz n m a b : Nat} (h : n ≠ m) (ha : a ≤ sz) (hb : b ≤ sz) : sz * n + 0 + a ≤ sz * m + 0 ∨ sz * m + 0 + b ≤ sz * n + 0 := by
  rcases Nat.lt_or_gt_of_ne h with hl | hl
  · left
    have := Nat.mul_le_mul_left sz hl
    rw [Nat.mul_succ] at this
    omega
  · right
    have := Nat.mul_le_mul_left sz hl
    rw [Nat.mul_succ] at this
    omega
theorem rd_wr_same {M : RamS} {rs : List Nat} (hO : RamOk M) (h : RowIn M rs) (hnd : rs.Nodup) {d : List UInt8} {a : Nat} (ham : a + d.length ≤ rs.length * 4096) : (M.wr rs a d).rd rs a d.length = d := by
  unfold RamS.rd
  rw [(wr_all hO h hnd ham).2.1]
  exact spl_same (by rw [pgB_length hO h]; exact ham)
theorem rd_wr_other {M : RamS} {rs : List Nat} (hO : RamOk M) (h : RowIn M rs) (hnd : rs.Nodup) {d : List UInt8} {a : Nat} (ham : a + d.length ≤ rs.length * 4096) {k m : Nat} (hk : k + m ≤ a ∨ a + d.length ≤ k) : (M.wr rs a d).rd rs k m = M.rd rs k m := by
  unfold RamS.rd
  rw [(wr_all hO h hnd ham).2.1]
  exact spl_other (by rw [pgB_length hO h]; exact ham) hk
theorem pgB_congr {M M' : RamS} {rs : List Nat} (h : ∀ r ∈ rs, M'.frame r = M.frame r) : pgB M' rs = pgB M rs := by
  unfold pgB
  rw [List.map_congr_left h]
theorem rd_congr {M M' : RamS} {rs : List Nat} (h : ∀ r ∈ rs, M'.frame r = M.frame r) (a m : Nat) : M'.rd rs a m = M.rd rs a m := by
  unfold RamS.rd
  rw [pgB_congr h]
end Go.Proofs.YtheblkofemobdaaGreat

/-
  Package inner: Make.
-/
namespace Go.Proofs.YtheblkofemobdaaGreat
open Go.RowKit

/-- The zspage that Make makes, and the RAM. -/
def mkPgN (M : RamS) (c many N : Nat) : RamS × PgS :=
  ((frK (M.takeK many).1 (M.takeK many).2 (csz c) N N).1, ⟨List.replicate N false, c, (M.takeK many).2, (frK (M.takeK many).1 (M.takeK many).2 (csz c) N N).2⟩)
def mkPg (M : RamS) (c : Nat) : RamS × PgS := mkPgN M c (cFrames c) (cObjects c)
section
variable {e : Env} {w : World} {R : List HP} {b rb : Nat} {g : PgS} {M : RamS}
set_option maxRecDepth 100000 in
set_option maxHeartbeats 1000000 in
theorem pgMake_no (H : Holds e w (ramH rb M :: R)) {c : Nat} (hc : c < 64) (hlt : M.fr.free.length < cFrames c) :
    Calls Tryz.prog 70 #[.pointer (some ⟨rb, 0, none⟩), .int .i64 c] w (Ret e (.tuple #[.pointer none, .int .i64 11]) (ramH rb M :: R)) := by
  have hb := cFrames_bd c
  have hbo := cObjects_bd hc
  have cF := clsFrames (w := w) c hc
  have cO := fun w => clsObjects (w := w) c hc
  have hfit := cObjects_fit c
  generalize cFrames c = many at *
  generalize cObjects c = N at *
  have hmz : ((many : Int) == 0) = false := by simp; omega
  skip
  go_enter Tryz.func70, Tryz.ntmps70
  go_wp2_with fail
  refine cF.mono ?_
  rintro en w1 ⟨rfl, n1, hw1⟩
  have H1 : Holds e w1 _ := hw1 ▸ H.drewN n1
  clear hw1 H cF
  obtain ⟨f, fm, hO, h⟩ := ram_open H1
  have hFo := fr_ok h.swap
  have hcnt := free_count hFo
  have h1 := h.alloc (.cells #[.int .i64 0] 3)
  have hc0 := h.cells 0
  have CC := frCount h1.p2 [0] (.slice (some ⟨w1.heap.size, 0, none⟩) 1 1) (by simp) (fun n => ⟨rfl, .inr ⟨_, _, rfl, Nat.le_refl _, fun j u hj => by rw [Addr.add_at, Nat.zero_add, (h1.drewN n).cells]; simpa [ints] using hj⟩⟩)
  rw [hcnt] at CC
  have CC := Lib.hid CC
  have HO := Lib.hid hO
  clear h h1 hcnt hO
  obtain ⟨fl, hfl⟩ : ∃ fl, M.fr.free.length = fl := ⟨_, rfl⟩
  have HFL := Lib.hid hfl
  rw [hfl] at hlt CC
  clear hfl
  go_wp2_with fail
  refine CC.out.mono ?_
  rintro en w2 ⟨rfl, H2⟩
  have H3 := ram_close HO.out rfl (H2.d1.swap)
  clear CC H2 hc0
  clear cO hfit
  go_wp2_with fail
  go_ret2
  exact ⟨rfl, H3⟩

theorem frK_first (M : RamS) (rs : List Nat) (sz N : Nat) : ∀ t, (frK M rs sz N t).2 ≤ N ∨ t > N
  | 0 => .inl (Nat.zero_le _)
  | t + 1 => by
    rcases Nat.lt_or_ge N (t + 1) with h | h
    · exact .inr h
    · left; unfold frK; dsimp only; omega
theorem mk_ok {M' : RamS} {rs : List Nat} {c N f : Nat} (hc : c < 64) (hl : rs.length = cFrames c) (hN : cObjects c = N) (hnd : rs.Nodup) (ho : ∀ r ∈ rs, M'.fr.own r = 3) (hf : f ≤ N) : PgOk M' ⟨List.replicate N false, c, rs, f⟩ :=
  ⟨hc, hl, by rw [hN]; exact List.length_replicate, hnd, ho, by rw [List.length_replicate]; exact hf⟩
set_option maxRecDepth 100000 in
set_option maxHeartbeats 400000 in
theorem pgMake_yes (H : Holds e w (ramH rb M :: R)) {c : Nat} (hc : c < 64) (hlt : cFrames c ≤ M.fr.free.length) :
    Calls Tryz.prog 70 #[.pointer (some ⟨rb, 0, none⟩), .int .i64 c] w (RetEx e (fun b : Nat => .tuple #[.pointer (some ⟨b, 0, none⟩), .int .i64 0]) (fun b => pgH b (mkPg M c).2 :: ramH rb (mkPg M c).1 :: R)) := by
  unfold mkPg
  have HPG : Hid (∀ t, t ≤ cObjects c → PgOk (frK (M.takeK (cFrames c)).1 (M.takeK (cFrames c)).2 (csz c) (cObjects c) t).1 ⟨List.replicate (cObjects c) false, c, (M.takeK (cFrames c)).2, (frK (M.takeK (cFrames c)).1 (M.takeK (cFrames c)).2 (csz c) (cObjects c) t).2⟩) :=
    Lib.hid fun t ht => by
      have T := takeK_taken (ram_ok H).1 (ram_ok H).2 hlt
      exact mk_ok hc T.len rfl (T.nd (ram_ok H).2) (fun r hr => by rw [frK_fr, T.own r, if_pos hr]) (by
        rcases frK_first (M.takeK (cFrames c)).1 (M.takeK (cFrames c)).2 (csz c) (cObjects c) t with h | h
        · exact h
        · omega)
  have HT : Hid (∀ k, k ≤ M.fr.free.length → Taken M k (M.takeK k)) := Lib.hid fun k hk => takeK_taken (ram_ok H).1 (ram_ok H).2 hk
  have HFO := Lib.hid (ram_ok H).2
  have hb := cFrames_bd c
  have hbo := cObjects_bd hc
  have cF := clsFrames (w := w) c hc
  have cO := fun w => clsObjects (w := w) c hc
  have hfit := cObjects_fit c
  generalize cFrames c = many at *
  generalize cObjects c = N at *
  have hmz : ((many : Int) == 0) = false := by simp; omega
  (
      unfold mkPgN
      dsimp only
      generalize hTK : M.takeK = TK at HT HPG ⊢
      have hfk0 : frK (TK many).1 (TK many).2 (csz c) N 0 = ((TK many).1, 0) := rfl
      have HFK : Hid (∀ t, t < N → frK (TK many).1 (TK many).2 (csz c) N (t + 1) = ((frK (TK many).1 (TK many).2 (csz c) N t).1.wr (TK many).2 (csz c * (N - (t + 1)) + 0) (le 2 (frK (TK many).1 (TK many).2 (csz c) N t).2), N - (t + 1) + 1)) := Lib.hid fun t _ => rfl
      generalize frK (TK many).1 (TK many).2 (csz c) N = fk at HPG HFK hfk0 ⊢
      have HFK0 := Lib.hid hfk0
      have HTK0 : Hid (TK 0 = (M, [])) := Lib.hid (by rw [← hTK]; rfl)
      have HTKs : Hid (∀ k, TK (k + 1) = ((TK k).1.take 3 (TK k).1.fr.free.dropLast ((TK k).1.fr.free.getLastD 0), (TK k).2 ++ [(TK k).1.fr.free.getLastD 0])) := Lib.hid fun k => by rw [← hTK]; rfl
      clear hTK hfk0)
  go_enter Tryz.func70, Tryz.ntmps70
  go_wp2_with fail
  refine cF.mono ?_
  rintro en w1 ⟨rfl, n1, hw1⟩
  have H1 : Holds e w1 _ := hw1 ▸ H.drewN n1
  clear hw1 H cF
  obtain ⟨f, fm, hO, h⟩ := ram_open H1
  have hFo := fr_ok h.swap
  have hcnt := free_count hFo
  have h1 := h.alloc (.cells #[.int .i64 0] 3)
  have hc0 := h.cells 0
  have CC := frCount h1.p2 [0] (.slice (some ⟨w1.heap.size, 0, none⟩) 1 1) (by simp) (fun n => ⟨rfl, .inr ⟨_, _, rfl, Nat.le_refl _, fun j u hj => by rw [Addr.add_at, Nat.zero_add, (h1.drewN n).cells]; simpa [ints] using hj⟩⟩)
  rw [hcnt] at CC
  have CC := Lib.hid CC
  have HO := Lib.hid hO
  clear h h1 hcnt hO
  obtain ⟨fl, hfl⟩ : ∃ fl, M.fr.free.length = fl := ⟨_, rfl⟩
  have HFL := Lib.hid hfl
  rw [hfl] at hlt CC
  clear hfl
  go_wp2_with fail
  refine CC.out.mono ?_
  rintro en w2 ⟨rfl, H2⟩
  have H3 := ram_close HO.out rfl (H2.d1.swap)
  clear CC H2 hc0
  have CO := Lib.hid (cO w2)
  clear cO
  go_wp2_with fail
  refine CO.out.mono ?_
  rintro en w3 ⟨rfl, n3, hw3⟩
  have H4 : Holds e w3 _ := hw3 ▸ H3.drewN n3
  clear hw3 H3 CO
  have CN := Lib.hid (bsNew H4 N (by omega))
  go_wp2_with fail
  refine CN.out.mono ?_
  rintro en w4 ⟨bs, rfl, H5⟩
  obtain ⟨bp, hbp⟩ : ∃ bp, w4.heap.size = bp := ⟨_, rfl⟩
  have H6 : Holds e (w4.alloc (.cells #[.pointer (some ⟨bs, 0, none⟩), .int .i64 c, .slice none 0 0, .int .i64 0] 126)) (pgH bp ⟨List.replicate N false, c, (TK 0).2, 0⟩ :: ramH rb (TK 0).1 :: R) := by
    rw [HTK0.out]
    have h := H5.alloc (.cells #[.pointer (some ⟨bs, 0, none⟩), .int .i64 c, .slice none 0 0, .int .i64 0] 126)
    rw [hbp] at h
    refine pg_close (q := bs) (v := .slice none 0 0) (g := ⟨List.replicate N false, c, [], 0⟩) ?_
    exact (row.nil 3 1 h).q2
  clear CN H4 H5
  go_wp2_with fail
  go_loopw [35] (fun i wr => ∃ k, k ≤ many ∧ i = .int .i64 (k : Nat) ∧ Holds e wr (pgH bp ⟨List.replicate N false, c, (TK k).2, 0⟩ :: ramH rb (TK k).1 :: R)) (fun i _ => many - (intOf i).toNat)
  case atStart => exact ⟨0, by omega, rfl, H6⟩
  case round =>
    obtain ⟨k, hk, rfl, HX⟩ := hrel
    clear H6
    by_cases hlk : k < many
    · have T := HT.out k (by rw [HFL.out]; omega)
      have hfl : 0 < (TK k).1.fr.free.length := by
        have := congrArg List.length T.free
        rw [List.length_append, List.length_reverse, T.len, HFL.out] at this
        omega
      have hsp := last_split hfl
      have hkl : (TK k).2.length ≤ 4 := by rw [T.len]; omega
      obtain ⟨n, hn⟩ : ∃ n, (TK k).1.fr.free.getLastD 0 = n := ⟨_, rfl⟩
      have HTK : Hid (TK (k + 1) = ((TK k).1.take 3 (TK k).1.fr.free.dropLast n, (TK k).2 ++ [n])) := Lib.hid (by rw [HTKs.out, hn])
      rw [hn] at hsp
      clear hn hfl T
      generalize (TK k).1.fr.free.dropLast = L at *
      generalize (TK k).1 = M1 at *
      generalize (TK k).2 = rs at *
      have CT := Lib.hid (ramTake_yes HX.swap 3 hsp (by decide) (by decide))
      clear hsp HX
      go_wp2_with fail
      refine CT.out.mono ?_
      rintro en w5 ⟨rfl, H7⟩
      obtain ⟨q, av, cv, h8⟩ := pg_open H7.swap
      unfold pgObj at h8
      dsimp only at h8
      have hc8 := h8.cells
      have hf8 := h8.frozen
      clear CT H7
      go_wp2_with (at_builtin; refine wpList_append_sl rfl _ _ _ rfl 3 1 8 elem_int (.slice av rs.length cv) rs.length (ints (nats rs)) rfl ((h8.p2.alloc _).swap) (.slice (some ⟨w5.heap.size, 0, none⟩) 1 1) 1 (ints [(n : Int)]) rfl ?_ (ints_one _) ?_ ?_ ?_)
      · simpa [ints] using reads_lit1 w5 (.int .i64 n) 3
      · unfold maxLen; omega
      · omega
      intro v' w6 H9
      rw [← ints_append, show nats rs ++ [(n : Int)] = nats (rs ++ [n]) by simp [nats]] at H9
      obtain ⟨a', c', rfl⟩ := row_shape H9
      have H10 := H9.d1.swap
      have hc10 := H10.cells
      have hf10 := H10.frozen
      have H11 := Lib.hid (H10.set 2 (.slice a' (rs.length + 1) c'))
      clear H9 H10 hc8 hf8 h8
      go_wp2_with fail
      go_roundw
      case rel =>
        refine ⟨k + 1, by omega, by go_num, ?_⟩
        rw [HTK.out]
        dsimp only
        have h := H11.out.cons fun _ s => Sat.q1 s
        rw [show rs.length + 1 = (rs ++ [n]).length by simp] at h ⊢
        exact pg_close (g := ⟨List.replicate N false, c, rs ++ [n], 0⟩) h
      case measure => simp [intOf]; omega
    · obtain rfl : k = many := by omega
      have H7 : Holds e wr (pgH bp ⟨List.replicate N false, c, (TK k).2, (fk 0).2⟩ :: ramH rb (fk 0).1 :: R) := by rw [HFK0.out]; exact HX
      clear HX
      obtain ⟨rs, hrs⟩ : ∃ rs, (TK k).2 = rs := ⟨_, rfl⟩
      have HRS := Lib.hid hrs
      rw [hrs] at H7 HPG HFK
      clear hrs
      obtain ⟨q, av, cv, h8⟩ := pg_open H7
      have CS := bsSize_ok h8.swap
      have hc8 := h8.cells 0
      have hc9 : wr.cell? ⟨bp, 0, none⟩ = some (.pointer (some ⟨q, 0, none⟩)) := hc8
      dsimp only at CS
      rw [List.length_replicate] at CS
      have CS := Lib.hid CS
      clear h8 hc8
      go_wp2_with fail
      refine CS.out.mono ?_
      rintro en w5 ⟨rfl, n5, hw5⟩
      have H8 : Holds e w5 _ := hw5 ▸ H7.drewN n5
      clear hw5 H7 CS hc9
      go_wp2_with fail
      go_loopw [10] (fun i wr => ∃ t, t ≤ N ∧ i = .int .i64 ((N : Int) - 1 - (t : Nat)) ∧ Holds e wr (pgH bp ⟨List.replicate N false, c, rs, (fk t).2⟩ :: ramH rb (fk t).1 :: R)) (fun i _ => (intOf i + 1).toNat)
      case atStart => exact ⟨0, by omega, by go_num, H8⟩
      case round =>
        obtain ⟨t, ht, rfl, HY⟩ := hrel
        clear H8
        by_cases hlt2 : t < N
        · have hP := HPG.out t (by omega)
          have CF := pgFree HY hP (n := N - (t + 1)) (by simp; omega)
          rw [show ((N - (t + 1) : Nat) : Int) = (N : Int) - 1 - (t : Int) by omega] at CF
          have CF := Lib.hid CF
          have hst := HFK.out t hlt2
          have HST := Lib.hid hst
          clear hP HY hst
          go_wp2_with fail
          refine CF.out.mono ?_
          rintro en w6 ⟨rfl, H9⟩
          clear CF
          go_wp2_with fail
          go_roundw
          case rel =>
            refine ⟨t + 1, by omega, by go_num, ?_⟩
            rw [HST.out]
            exact H9
          case measure => simp [intOf]; omega
        · obtain rfl : t = N := by omega
          have HYN := HY
          clear HY
          go_wp2_with fail
          go_ret2
          rw [← HRS.out] at HYN
          exact ⟨bp, rfl, HYN⟩
end
end Go.Proofs.YtheblkofemobdaaGreat

/-
  A zspage and its free list, as laws of states. No program in sight.
-/
namespace Go.Proofs.YtheblkofemobdaaGreat
open Go.RowKit

structure PgInv (M : RamS) (g : PgS) (L : List Nat) : Prop where
  ok : PgOk M g
  chain : Chain M g.row (csz g.cls) L g.first
  nd : L.Nodup
  mem : ∀ n, n ∈ L ↔ n < g.set.length ∧ g.set.getD n false = false
/-- An object's first bytes. -/
def obj (M : RamS) (g : PgS) (n m : Nat) : List UInt8 := M.rd g.row (csz g.cls * n + 0) m

section
variable {M M' : RamS} {g : PgS} {L : List Nat}
theorem csz64 (c : Nat) : 64 ≤ csz c := by unfold csz; omega
theorem PgOk.fit0 (h : PgOk M g) {n m : Nat} (hn : n < g.set.length) (hm : m ≤ csz g.cls) : csz g.cls * n + 0 + m ≤ g.row.length * 4096 := by rw [Nat.add_zero]; exact h.fit hn hm
theorem obj_length (hO : RamOk M) (h : PgOk M g) {n m : Nat} (hn : n < g.set.length) (hm : m ≤ csz g.cls) : (obj M g n m).length = m := rd_length hO h.rowIn (h.fit0 hn hm)
theorem tk_frame (M : RamS) (a m k : Nat) : (M.tk a m).frame k = M.frame k := rfl
theorem tk_fr (M : RamS) (a m : Nat) : (M.tk a m).fr = M.fr := rfl
theorem tk_ok {M : RamS} (h : RamOk M) (a m : Nat) : RamOk (M.tk a m) := ⟨h.len, h.each⟩
theorem PgOk.congr (h : PgOk M g) (ho : ∀ r ∈ g.row, M'.fr.own r = M.fr.own r) : PgOk M' g := ⟨h.cls, h.len, h.set, h.nd, fun r hr => by rw [ho r hr]; exact h.own r hr, h.first⟩
theorem PgInv.congr (h : PgInv M g L) (ho : ∀ r ∈ g.row, M'.fr.own r = M.fr.own r) (hf : ∀ r ∈ g.row, M'.frame r = M.frame r) : PgInv M' g L :=
  ⟨h.ok.congr ho, h.chain.congr fun _ _ => rd_congr hf _ _, h.nd, h.mem⟩
theorem PgInv.tk (h : PgInv M g L) (a m : Nat) : PgInv (M.tk a m) g L := h.congr (fun _ _ => rfl) (fun _ _ => rfl)
theorem obj_congr (hf : ∀ r ∈ g.row, M'.frame r = M.frame r) (n m : Nat) : obj M' g n m = obj M g n m := rd_congr hf _ _
/-- Bytes written into an object. -/
theorem obj_wr_same (hO : RamOk M) (h : PgOk M g) {n : Nat} {d : List UInt8} (hn : n < g.set.length) (hd : d.length ≤ csz g.cls) : obj (M.wr g.row (csz g.cls * n + 0) d) g n d.length = d :=
  rd_wr_same hO h.rowIn h.nd (h.fit0 hn hd)
theorem obj_wr_other (hO : RamOk M) (h : PgOk M g) {n k m : Nat} {d : List UInt8} (hn : n < g.set.length) (hd : d.length ≤ csz g.cls) (hk : k ≠ n) (hm : m ≤ csz g.cls) : obj (M.wr g.row (csz g.cls * n + 0) d) g k m = obj M g k m :=
  rd_wr_other hO h.rowIn h.nd (h.fit0 hn hd) (obj_apart hk hm hd)
theorem wr_ram (hO : RamOk M) (h : PgOk M g) {n : Nat} {d : List UInt8} (hn : n < g.set.length) (hd : d.length ≤ csz g.cls) : RamOk (M.wr g.row (csz g.cls * n + 0) d) ∧ ∀ k, k ∉ g.row → (M.wr g.row (csz g.cls * n + 0) d).frame k = M.frame k :=
  ⟨(wr_all hO h.rowIn h.nd (h.fit0 hn hd)).1, (wr_all hO h.rowIn h.nd (h.fit0 hn hd)).2.2⟩

theorem PgInv.write (hO : RamOk M) (h : PgInv M g L) {n : Nat} {d : List UInt8} (hn : n < g.set.length) (hx : g.set.getD n false = true) (hd : d.length ≤ csz g.cls) : PgInv (M.wr g.row (csz g.cls * n + 0) d) g L := by
  refine ⟨h.ok.congr fun r _ => by rw [wr_fr], h.chain.congr fun k hk => ?_, h.nd, h.mem⟩
  have hkn : k ≠ n := by
    rintro rfl
    have := ((h.mem k).1 hk).2
    rw [hx] at this
    cases this
  exact obj_wr_other hO h.ok hn hd hkn (by have := csz64 g.cls; omega)
theorem PgInv.takeHead {n : Nat} (h : PgInv M g (n :: L)) : g.first = n + 1 ∧ n < g.set.length ∧ g.set.getD n false = false :=
  ⟨h.chain.1, (h.mem n).1 (by simp)⟩
theorem PgInv.take {n : Nat} (h : PgInv M g (n :: L)) (a m : Nat) (hb : unle (obj M g n 2) ≤ g.set.length) : PgInv (M.tk a m) { g with set := g.set.set n true, first := unle (obj M g n 2) } L := by
  obtain ⟨_, hn, hx⟩ := h.takeHead
  have hnd := List.nodup_cons.1 h.nd
  refine ⟨⟨h.ok.cls, h.ok.len, by simpa using h.ok.set, h.ok.nd, h.ok.own, by simpa using hb⟩, h.chain.2.congr fun _ _ => rfl, hnd.2, fun k => ?_⟩
  dsimp only
  rw [List.length_set, getD_set hn]
  constructor
  · intro hk
    have := (h.mem k).1 (by simp [hk])
    refine ⟨this.1, ?_⟩
    rw [if_neg (by rintro rfl; exact hnd.1 hk)]
    exact this.2
  · rintro ⟨h1, h2⟩
    by_cases hkn : k = n
    · rw [if_pos hkn] at h2; cases h2
    · rw [if_neg hkn] at h2
      have := (h.mem k).2 ⟨h1, h2⟩
      simpa [hkn] using this
/-- What a chain tells next is a number of it, or none. -/
theorem chain_le {rs : List Nat} {sz N : Nat} : ∀ {L : List Nat} {f : Nat}, Chain M rs sz L f → (∀ n ∈ L, n < N) → f ≤ N
  | [], f, h, _ => by have : f = 0 := h; omega
  | n :: L, f, h, hb => by have := h.1; have := hb n (by simp); omega
theorem PgInv.next {n : Nat} (h : PgInv M g (n :: L)) : unle (obj M g n 2) ≤ g.set.length :=
  chain_le h.chain.2 fun k hk => ((h.mem k).1 (by simp [hk])).1
theorem PgInv.give (hO : RamOk M) (h : PgInv M g L) {n : Nat} (hn : n < g.set.length) (hx : g.set.getD n false = true) :
    PgInv (M.wr g.row (csz g.cls * n + 0) (le 2 g.first)) { g with set := g.set.set n false, first := n + 1 } (n :: L) := by
  have hl2 : (le 2 g.first).length ≤ csz g.cls := by rw [le_length]; have := csz64 g.cls; omega
  have hnL : n ∉ L := fun hm => by have := ((h.mem n).1 hm).2; rw [hx] at this; cases this
  have hs := h.ok.set256
  have hff := h.ok.first
  have hsame := obj_wr_same hO h.ok hn hl2
  rw [le_length] at hsame
  refine ⟨⟨h.ok.cls, h.ok.len, by simpa using h.ok.set, h.ok.nd, fun r hr => by rw [wr_fr]; exact h.ok.own r hr, by dsimp only; rw [List.length_set]; exact hn⟩, ⟨rfl, ?_⟩, List.nodup_cons.2 ⟨hnL, h.nd⟩, fun k => ?_⟩
  · have e1 : unle ((M.wr g.row (csz g.cls * n + 0) (le 2 g.first)).rd g.row (csz g.cls * n + 0) 2) = g.first := by
      have : (M.wr g.row (csz g.cls * n + 0) (le 2 g.first)).rd g.row (csz g.cls * n + 0) 2 = le 2 g.first := hsame
      rw [this]
      exact unle_le 2 _ (by omega)
    dsimp only
    rw [e1]
    refine h.chain.congr fun k hk => ?_
    have hkn : k ≠ n := by rintro rfl; exact hnL hk
    exact obj_wr_other hO h.ok hn hl2 hkn (by have := csz64 g.cls; omega)
  · dsimp only
    rw [List.length_set, getD_set hn, List.mem_cons, h.mem k]
    by_cases hkn : k = n
    · subst hkn; simp [hn]
    · simp [hkn]
theorem cnt_free : ∀ (l : List Bool) (L : List Nat), L.Nodup → (∀ n, n ∈ L ↔ n < l.length ∧ l.getD n false = false) → L.length + cnt l = l.length := by
  intro l L hnd hm
  have h1 : L.Perm ((List.range l.length).filter fun i => !l.getD i false) := by
    refine (List.perm_ext_iff_of_nodup hnd (List.Pairwise.filter _ List.nodup_range)).2 fun i => ?_
    rw [hm i, List.mem_filter, List.mem_range]
    simp
  have h2 : l = (List.range l.length).map fun i => l.getD i false := by
    apply List.ext_getElem
    · simp
    · intro i h1 h2; simp [List.getD, h1]
  have h3 : cnt l = ((List.range l.length).filter fun i => l.getD i false).length := by
    unfold cnt
    conv => lhs; rw [h2]
    rw [List.count, List.countP_map, List.countP_eq_length_filter]
    congr 1
    apply List.filter_congr
    intro i _
    simp
  rw [h1.length_eq, h3]
  have h4 : ∀ (p : Nat → Bool) (xs : List Nat), (xs.filter fun i => !p i).length + (xs.filter p).length = xs.length := by
    intro p xs
    induction xs with
    | nil => rfl
    | cons x xs ih => by_cases hp : p x = true <;> simp [hp] <;> omega
  simpa using h4 (fun i => l.getD i false) (List.range l.length)
theorem PgInv.count (h : PgInv M g L) : L.length + cnt g.set = g.set.length := cnt_free _ _ h.nd h.mem
end
end Go.Proofs.YtheblkofemobdaaGreat

/-
  What Make makes, as a law of states. No program in sight.
-/
namespace Go.Proofs.YtheblkofemobdaaGreat
open Go.RowKit

theorem frK_chain {M : RamS} {rs : List Nat} {sz N : Nat} (hO : RamOk M) (h : RowIn M rs) (hnd : rs.Nodup) (hN : N ≤ 256) (hsz : 2 ≤ sz) (hfit : ∀ n, n < N → sz * n + sz ≤ rs.length * 4096) : ∀ t, t ≤ N →
    RamOk (frK M rs sz N t).1 ∧ Chain (frK M rs sz N t).1 rs sz (List.range' (N - t) t) (frK M rs sz N t).2 ∧ (∀ k, k ∉ rs → (frK M rs sz N t).1.frame k = M.frame k) ∧ (frK M rs sz N t).2 ≤ N
  | 0, _ => ⟨hO, rfl, fun _ _ => rfl, Nat.zero_le _⟩
  | t + 1, ht => by
    obtain ⟨h1, h2, h3, h4⟩ := frK_chain hO h hnd hN hsz hfit t (by omega)
    have hfr := frK_fr M rs sz N t
    unfold frK
    dsimp only
    generalize (frK M rs sz N t).1 = M1 at *
    generalize (frK M rs sz N t).2 = f at *
    have hr1 : RowIn M1 rs := fun r hr => by rw [hfr]; exact h r hr
    have hf := hfit (N - (t + 1)) (by omega)
    have hft : sz * (N - (t + 1)) + 0 + (le 2 f).length ≤ rs.length * 4096 := by rw [le_length]; omega
    obtain ⟨w1, _, w3⟩ := wr_all h1 hr1 hnd hft
    refine ⟨w1, ?_, fun k hk => (w3 k hk).trans (h3 k hk), by omega⟩
    rw [List.range'_succ, show N - (t + 1) + 1 = N - t by omega]
    refine ⟨by omega, ?_⟩
    have hs := rd_wr_same h1 hr1 hnd hft
    rw [le_length] at hs
    rw [hs, unle_le 2 f (by omega)]
    refine h2.congr fun k hk => ?_
    rw [List.mem_range'_1] at hk
    exact rd_wr_other h1 hr1 hnd hft (by
      rw [le_length]
      exact (obj_apart (sz := sz) (n := k) (m := N - (t + 1)) (a := 2) (b := 2) (by omega) hsz hsz))

section
variable {M : RamS} {c : Nat}
structure Made (M : RamS) (c : Nat) (p : RamS × PgS) : Prop where
  ram : RamOk p.1
  fr : FrOk p.1.fr
  cls : p.2.cls = c
  set : p.2.set = List.replicate (cObjects c) false
  inv : PgInv p.1 p.2 (List.range (cObjects c))
  free : p.1.fr.free.length + cFrames c = M.fr.free.length
  was : ∀ r ∈ p.2.row, M.fr.own r = 0
  own : ∀ j : Nat, p.1.fr.own j = if j ∈ p.2.row then 3 else M.fr.own j
  frame : ∀ j, j ∉ p.2.row → p.1.frame j = M.frame j
  olen : p.1.fr.owner.length = M.fr.owner.length
theorem mk_made (hO : RamOk M) (hF : FrOk M.fr) (hc : c < 64) (hlt : cFrames c ≤ M.fr.free.length) : Made M c (mkPg M c) := by
  have T := takeK_taken hO hF hlt
  have hnd := T.nd hF
  have hN := cObjects_bd hc
  have hfit := cObjects_fit c
  have hwas : ∀ r ∈ (M.takeK (cFrames c)).2, M.fr.own r = 0 := fun r hr => by
    have := (hF.mem r).1 (T.mem hr)
    rw [FrS.own, if_pos (Int.natCast_nonneg r), Int.toNat_natCast]
    exact this.2
  have hlt' : ∀ r ∈ (M.takeK (cFrames c)).2, r < (M.takeK (cFrames c)).1.fr.owner.length := fun r hr => by rw [T.olen]; exact ((hF.mem r).1 (T.mem hr)).1
  have hfl : (M.takeK (cFrames c)).1.fr.free.length + cFrames c = M.fr.free.length := by
    have := congrArg List.length T.free
    rw [List.length_append, List.length_reverse, T.len] at this
    omega
  have hl := T.len
  unfold mkPg mkPgN
  generalize hP : M.takeK (cFrames c) = P at *
  obtain ⟨M1, rs⟩ := P
  dsimp only at *
  have hfit' : ∀ n, n < cObjects c → csz c * n + csz c ≤ rs.length * 4096 := fun n hn => by
    have h2 : csz c * (n + 1) ≤ csz c * cObjects c := Nat.mul_le_mul_left _ hn
    rw [Nat.mul_succ] at h2
    rw [hl]
    unfold csz at *
    rw [Nat.mul_comm (cObjects c)] at hfit
    omega
  have hcs := csz64 c
  obtain ⟨k1, k2, k3, k4⟩ := frK_chain T.ok hlt' hnd (N := cObjects c) hN.2 (sz := csz c) (by omega) hfit' (cObjects c) (Nat.le_refl _)
  have kf := frK_fr M1 rs (csz c) (cObjects c) (cObjects c)
  rw [Nat.sub_self, ← List.range_eq_range'] at k2
  have kown : ∀ j : Nat, (frK M1 rs (csz c) (cObjects c) (cObjects c)).1.fr.own j = if j ∈ rs then 3 else M.fr.own j := fun j => by rw [kf]; exact T.own j
  refine ⟨k1, by rw [kf]; exact T.fok, rfl, rfl, ⟨mk_ok hc hl rfl hnd (fun r hr => by rw [kown, if_pos hr]) k4, k2, List.nodup_range, fun n => ?_⟩, by rw [kf]; exact hfl, hwas, kown, fun j hj => ?_, by rw [kf]; exact T.olen⟩
  · rw [List.mem_range, List.length_replicate]
    exact ⟨fun h => ⟨h, by simp [List.getD, h]⟩, fun h => h.1⟩
  · dsimp only at hj
    rw [k3 j hj, T.frame j, if_neg hj]
end
end Go.Proofs.YtheblkofemobdaaGreat

/-
  Maps keyed by numbers, in the separation logic. No program in sight.
-/
namespace Go.Proofs.YtheblkofemobdaaGreat
open Go.RowKit
open Go.MapKept (Stamped IsKey findNow_spec)

structure MFit (es : Array MapEntry) (clock N : Nat) (D : Int → Option Value) : Prop where
  stamped : Stamped es clock
  each : ∀ x ∈ es.toList, ∃ k : Int, x.key = .int .i64 k ∧ 0 ≤ k ∧ k < N ∧ D k = some x.val
  cover : ∀ k v, D k = some v → ∃ x ∈ es.toList, x.key = .int .i64 k
/-- Block b is a map of keys below N: D. -/
def mapZ (b N : Nat) (D : Int → Option Value) : HP := exh fun p : Array MapEntry × Nat => grp [pur (MFit p.1 p.2 N D), pts b (.map p.1 p.2)]

section
variable {P : Program} {e : Env} {w : World} {R : List HP} {b N : Nat} {D : Int → Option Value} {t kt et : TypeId}
theorem mapZ_open (H : Holds e w (mapZ b N D :: R)) : ∃ es clock, MFit es clock N D ∧ Holds e w (pts b (.map es clock) :: R) := by
  obtain ⟨⟨es, clock⟩, h⟩ := Holds.exE H
  have h2 := h.ungrp
  exact ⟨es, clock, h2.purE, h2.drop⟩
theorem mapZ_close {es : Array MapEntry} {clock : Nat} (F : MFit es clock N D) (H : Holds e w (pts b (.map es clock) :: R)) : Holds e w (mapZ b N D :: R) :=
  Holds.mkExh (es, clock) (Holds.mkGrp (L := [pur _, pts _ _]) (Holds.mkPur F H))
theorem MFit.key {es : Array MapEntry} {clock : Nat} (F : MFit es clock N D) {x y : MapEntry} (hx : x ∈ es.toList) (hy : y ∈ es.toList) (h : x.key = y.key) : x = y := by
  have h3 := List.pairwise_map.1 F.stamped.2.2
  obtain ⟨i, hi, e1⟩ := List.getElem_of_mem hx
  obtain ⟨j, hj, e2⟩ := List.getElem_of_mem hy
  have := List.pairwise_iff_getElem.1 h3
  rcases Nat.lt_trichotomy i j with hl | hl | hl
  · exact absurd (by rw [e1, e2]; exact h) (this i j hi hj hl)
  · subst hl; rw [← e1, ← e2]
  · exact absurd (by rw [e1, e2]; exact h.symm) (this j i hj hi hl)
theorem nodup_lenM {l : List Nat} {n : Nat} (hn : l.Nodup) (h : ∀ x ∈ l, x < n) : l.length ≤ n := by
  induction n generalizing l with
  | zero => cases l with
    | nil => exact Nat.le_refl _
    | cons a m => exact absurd (h a (by simp)) (by omega)
  | succ n ih =>
    have h1 := ih (l := l.erase n) (hn.erase n) (fun x hx => by
      have h2 := h x (List.mem_of_mem_erase hx)
      have h3 : x ≠ n := by rintro rfl; exact hn.not_mem_erase hx
      omega)
    have h4 := List.length_erase (l := l) (a := n)
    split at h4 <;> omega
theorem MFit.size {es : Array MapEntry} {clock : Nat} (F : MFit es clock N D) : es.size ≤ N := by
  have h1 : (es.toList.map fun x => match x.key with | .int _ k => k.toNat | _ => 0).Nodup := by
    obtain ⟨_, _, h3⟩ := F.stamped
    refine List.pairwise_map.2 ((List.pairwise_map.1 h3).imp_of_mem fun {x y} hx hy hne he => hne ?_)
    obtain ⟨k, hk, k0, _⟩ := F.each x hx
    obtain ⟨j, hj, j0, _⟩ := F.each y hy
    rw [hk, hj] at he ⊢
    dsimp only at he
    have : k = j := by omega
    rw [this]
  have h2 := nodup_lenM (n := N) h1 fun n hn => by
    obtain ⟨x, hx, rfl⟩ := List.mem_map.1 hn
    obtain ⟨k, hk, k0, k1, _⟩ := F.each x hx
    rw [hk]
    dsimp only
    omega
  simpa using h2

theorem run_findZ (hk : P.underlying kt = some (.int .i64)) (x : Int) (es : Array MapEntry) (hes : ∀ y ∈ es.toList, ∃ k : Int, y.key = .int .i64 k) :
    ((Instr.findKey kt (.int .i64 x) es.toList).run P w = .ok none w ∧ ∀ y ∈ es.toList, y.key ≠ .int .i64 x) ∨
    ∃ j y, (Instr.findKey kt (.int .i64 x) es.toList).run P w = .ok (some (j, y.val)) w ∧ es.toList[j]? = some y ∧ y.key = .int .i64 x := by
  rcases findNow_spec (d := .int .i64) (k := .int .i64 x) rfl es.toList 0 (fun y hy => by obtain ⟨k, hk⟩ := hes y hy; rw [hk]; rfl) with ⟨h1, h2⟩ | ⟨j, y, h1, h2, h3⟩
  · exact .inl ⟨MapKept.run_findKey hk h1, h2⟩
  · rw [Nat.zero_add] at h1
    exact .inr ⟨j, y, MapKept.run_findKey hk h1, h2, h3⟩
theorem checkZ (hk : P.underlying kt = some (.int .i64)) (x : Int) (em : Bool) : (Instr.checkKey em 10000 kt (.int .i64 x)).run P w = .ok () w := MapKept.run_checkKey (d := .int .i64) (k := .int .i64 x) hk rfl em 9999

theorem mapZ_lookup (H : Holds e w (mapZ b N D :: R)) (ht : P.underlying t = some (.map kt et)) (hk : P.underlying kt = some (.int .i64)) {z : Value} (hz : (zeroValue et).run P w = .ok z w) (c : Bool) (x : Int) :
    (Instr.lookup t (.map (some b)) (.int .i64 x) c).run P w = .ok (if c then .tuple #[(D x).getD z, .bool (D x).isSome] else (D x).getD z) w := by
  obtain ⟨es, clock, F, h⟩ := mapZ_open H
  have hb := h.get
  rcases run_findZ (P := P) (w := w) hk x es (fun y hy => by obtain ⟨k, hk, _⟩ := F.each y hy; exact ⟨k, hk⟩) with ⟨h1, h2⟩ | ⟨j, y, h1, h2, h3⟩
  · have hD : D x = none := by
      cases hd : D x with
      | none => rfl
      | some v => obtain ⟨y, hy, hyk⟩ := F.cover x v hd; exact absurd hyk (h2 y hy)
    simp [Instr.lookup, run_underlying ht, MapKept.run_getObj_map hb, checkZ hk, h1, hz, Result.andThen, hD]
  · obtain ⟨k, hk1, _, _, hd⟩ := F.each y (List.mem_of_getElem? h2)
    have : k = x := by rw [h3] at hk1; cases hk1; rfl
    subst this
    simp [Instr.lookup, run_underlying ht, MapKept.run_getObj_map hb, checkZ hk, h1, Result.andThen, hd]

theorem setBlock_holds {es es' : Array MapEntry} {clock clock' : Nat} (h : Holds e w (pts b (.map es clock) :: R)) : Holds e (ChangeMaps.setBlock w b (.map es' clock')) (pts b (.map es' clock') :: R) := by
  obtain ⟨h1, h2⟩ := MapKept.heap_set (o' := .map es' clock') h.get
  exact h.setObj rfl rfl rfl h1 h2

def mput (D : Int → Option Value) (x : Int) (v : Value) : Int → Option Value := fun k => if k = x then some v else D k
def mdel (D : Int → Option Value) (x : Int) : Int → Option Value := fun k => if k = x then none else D k

theorem mapZ_update (H : Holds e w (mapZ b N D :: R)) (ht : P.underlying t = some (.map kt et)) (hk : P.underlying kt = some (.int .i64)) {x : Int} (h0 : 0 ≤ x) (hN : x < N) (v : Value) :
    ∃ w', (Instr.mapUpdate t (.map (some b)) (.int .i64 x) v).run P w = .ok () w' ∧ Holds e w' (mapZ b N (mput D x v) :: R) := by
  obtain ⟨es, clock, F, h⟩ := mapZ_open H
  have hb := h.get
  rcases run_findZ (P := P) (w := w) hk x es (fun y hy => by obtain ⟨k, hk, _⟩ := F.each y hy; exact ⟨k, hk⟩) with ⟨h1, h2⟩ | ⟨j, y, h1, h2, h3⟩
  · refine ⟨ChangeMaps.setBlock w b (.map (es.push ⟨.int .i64 x, v, clock⟩) (clock + 1)), ?_, mapZ_close ⟨MapKept.stamped_push F.stamped h2, ?_, ?_⟩ (setBlock_holds h)⟩
    · simp [Instr.mapUpdate, run_underlying ht, MapKept.run_getObj_map hb, checkZ hk, h1, MapKept.run_setObj_map _ hb, Result.andThen, ChangeMaps.setBlock]
    · intro y hy
      simp only [Array.toList_push, List.mem_append, List.mem_singleton] at hy
      rcases hy with hy | rfl
      · obtain ⟨k, k1, k2, k3, k4⟩ := F.each y hy
        refine ⟨k, k1, k2, k3, ?_⟩
        rw [mput, if_neg (by rintro rfl; exact h2 y hy k1)]
        exact k4
      · exact ⟨x, rfl, h0, hN, by simp [mput]⟩
    · intro k u hku
      unfold mput at hku
      by_cases hkx : k = x
      · subst hkx; exact ⟨⟨.int .i64 k, v, clock⟩, by simp, rfl⟩
      · rw [if_neg hkx] at hku
        obtain ⟨y, hy, hyk⟩ := F.cover k u hku
        exact ⟨y, by simp [hy], hyk⟩
  · have hj : j < es.size := by simpa using (List.getElem?_eq_some_iff.1 h2).1
    have hy : es[j]? = some y := by rw [← Array.getElem?_toList]; exact h2
    have hyj := (Array.getElem?_eq_some_iff.1 hy).2
    have hst : (Instr.keyThatStays y.key (.int .i64 x)).run P w = .ok (.int .i64 x) w := by rw [h3]; exact MapKept.run_keyThatStays (d := .int .i64) rfl
    have hmo : (es.modify j fun z => { z with key := .int .i64 x, val := v }).toList = es.toList.set j ⟨.int .i64 x, v, y.born⟩ := by
      apply List.ext_getElem?
      intro i
      rw [Array.getElem?_toList, Array.getElem?_modify, List.getElem?_set]
      by_cases hij : j = i
      · subst hij; simp [hj, hyj]
      · simp [hij]
    refine ⟨ChangeMaps.setBlock w b (.map (es.modify j fun z => { z with key := .int .i64 x, val := v }) clock), ?_, mapZ_close ⟨?_, ?_, ?_⟩ (setBlock_holds h)⟩
    · simp [Instr.mapUpdate, run_underlying ht, MapKept.run_getObj_map hb, checkZ hk, h1, MapKept.run_setObj_map _ hb, Result.andThen, ChangeMaps.setBlock, hy, hst]
    · obtain ⟨s1, s2, s3⟩ := F.stamped
      have hm : y ∈ es.toList := List.mem_of_getElem? h2
      refine ⟨?_, ?_, ?_⟩
      · intro z hz
        rw [hmo] at hz
        rcases List.mem_or_eq_of_mem_set hz with hz | rfl
        · exact s1 z hz
        · exact s1 y hm
      · have : (es.modify j fun z => { z with key := .int .i64 x, val := v }).toList.map (·.born) = es.toList.map (·.born) := by
          rw [hmo, List.map_set]
          apply List.ext_getElem?
          intro i
          rw [List.getElem?_set]
          split
          · next hij => subst hij; simp [hj, hyj]
          · rfl
        rw [this]; exact s2
      · have : (es.modify j fun z => { z with key := .int .i64 x, val := v }).toList.map (·.key) = es.toList.map (·.key) := by
          rw [hmo, List.map_set]
          apply List.ext_getElem?
          intro i
          rw [List.getElem?_set]
          split
          · next hij => subst hij; simp [hj, hyj, h3]
          · rfl
        rw [this]; exact s3
    · intro z hz
      rw [hmo] at hz
      obtain ⟨i, hi⟩ := List.mem_iff_getElem?.1 hz
      rw [List.getElem?_set] at hi
      by_cases hij : j = i
      · subst hij
        rw [if_pos rfl, if_pos (by simpa using hj)] at hi
        cases hi
        exact ⟨x, rfl, h0, hN, by simp [mput]⟩
      · rw [if_neg hij] at hi
        have hz' := List.mem_of_getElem? hi
        obtain ⟨k, k1, k2, k3, k4⟩ := F.each z hz'
        refine ⟨k, k1, k2, k3, ?_⟩
        rw [mput, if_neg]
        · exact k4
        · rintro rfl
          have := List.pairwise_iff_getElem.1 (List.pairwise_map.1 F.stamped.2.2)
          have e1 : z.key = y.key := k1.trans h3.symm
          obtain ⟨hi1, hi2⟩ := List.getElem?_eq_some_iff.1 hi
          obtain ⟨hj1, hj2⟩ := List.getElem?_eq_some_iff.1 h2
          rcases Nat.lt_or_gt_of_ne hij with hl | hl
          · exact this j i hj1 hi1 hl (by rw [hi2, hj2]; exact e1.symm)
          · exact this i j hi1 hj1 hl (by rw [hi2, hj2]; exact e1)
    · intro k u hku
      unfold mput at hku
      by_cases hkx : k = x
      · subst hkx; exact ⟨⟨.int .i64 k, v, y.born⟩, by rw [hmo]; exact List.mem_iff_getElem?.2 ⟨j, by rw [List.getElem?_set, if_pos rfl, if_pos (by simpa using hj)]⟩, rfl⟩
      · rw [if_neg hkx] at hku
        obtain ⟨z, hz, hzk⟩ := F.cover k u hku
        obtain ⟨i, hi⟩ := List.mem_iff_getElem?.1 hz
        refine ⟨z, ?_, hzk⟩
        rw [hmo]
        refine List.mem_iff_getElem?.2 ⟨i, ?_⟩
        rw [List.getElem?_set, if_neg]
        · exact hi
        · rintro rfl
          rw [h2] at hi
          cases hi
          rw [h3] at hzk
          cases hzk
          exact hkx rfl

theorem mapZ_delete (H : Holds e w (mapZ b N D :: R)) (ht : P.underlying t = some (.map kt et)) (hk : P.underlying kt = some (.int .i64)) (ty : TypeId) (x : Int) :
    ∃ w', (Builtin.delete_ #[t, kt] ty #[.map (some b), .int .i64 x]).run P w = .ok (.tuple #[]) w' ∧ Holds e w' (mapZ b N (mdel D x) :: R) := by
  obtain ⟨es, clock, F, h⟩ := mapZ_open H
  have hb := h.get
  rcases run_findZ (P := P) (w := w) hk x es (fun y hy => by obtain ⟨k, hk, _⟩ := F.each y hy; exact ⟨k, hk⟩) with ⟨h1, h2⟩ | ⟨j, y, h1, h2, h3⟩
  · refine ⟨ChangeMaps.setBlock w b (.map es clock), ?_, mapZ_close ⟨F.stamped, ?_, ?_⟩ (setBlock_holds h)⟩
    · simp [Builtin.delete_, run_underlying ht, MapKept.run_getObj_map hb, checkZ hk, h1, MapKept.run_setObj_map _ hb, Result.andThen, ChangeMaps.setBlock]
    · intro y hy
      obtain ⟨k, k1, k2, k3, k4⟩ := F.each y hy
      exact ⟨k, k1, k2, k3, by rw [mdel, if_neg (by rintro rfl; exact h2 y hy k1)]; exact k4⟩
    · intro k u hku
      unfold mdel at hku
      split at hku
      · cases hku
      · exact F.cover k u hku
  · have hj : j < es.size := by simpa using (List.getElem?_eq_some_iff.1 h2).1
    have hsub : (es.eraseIdxIfInBounds j).toList = es.toList.eraseIdx j := by
      unfold Array.eraseIdxIfInBounds
      rw [dif_pos hj]
      simp
    have hpw := List.pairwise_iff_getElem.1 (List.pairwise_map.1 F.stamped.2.2)
    obtain ⟨hj1, hj2⟩ := List.getElem?_eq_some_iff.1 h2
    have other : ∀ (i : Nat) (z : MapEntry), es.toList[i]? = some z → i ≠ j → z.key ≠ .int .i64 x := by
      intro i z hi hij hzk
      obtain ⟨hi1, hi2⟩ := List.getElem?_eq_some_iff.1 hi
      have e1 : z.key = y.key := hzk.trans h3.symm
      rcases Nat.lt_or_gt_of_ne hij with hl | hl
      · exact hpw i j hi1 hj1 hl (by rw [hi2, hj2]; exact e1)
      · exact hpw j i hj1 hi1 hl (by rw [hi2, hj2]; exact e1.symm)
    refine ⟨ChangeMaps.setBlock w b (.map (es.eraseIdxIfInBounds j) clock), ?_, mapZ_close ⟨MapKept.stamped_erase F.stamped j, ?_, ?_⟩ (setBlock_holds h)⟩
    · simp [Builtin.delete_, run_underlying ht, MapKept.run_getObj_map hb, checkZ hk, h1, MapKept.run_setObj_map _ hb, Result.andThen, ChangeMaps.setBlock]
    · intro z hz
      rw [hsub, List.mem_eraseIdx_iff_getElem?] at hz
      obtain ⟨i, hij, hi⟩ := hz
      obtain ⟨k, k1, k2, k3, k4⟩ := F.each z (List.mem_of_getElem? hi)
      exact ⟨k, k1, k2, k3, by rw [mdel, if_neg (by rintro rfl; exact other i z hi hij k1)]; exact k4⟩
    · intro k u hku
      unfold mdel at hku
      split at hku
      · cases hku
      · next hkx =>
        obtain ⟨z, hz, hzk⟩ := F.cover k u hku
        obtain ⟨i, hi⟩ := List.mem_iff_getElem?.1 hz
        refine ⟨z, ?_, hzk⟩
        rw [hsub, List.mem_eraseIdx_iff_getElem?]
        refine ⟨i, ?_, hi⟩
        rintro rfl
        rw [h2] at hi
        cases hi
        rw [h3] at hzk
        cases hzk
        exact hkx rfl

theorem mapZ_made (H : Holds e w R) (N : Nat) : Holds e (w.alloc (.map #[] 0)) (mapZ w.heap.size N (fun _ => none) :: R) :=
  mapZ_close ⟨MapKept.stamped_empty 0, by simp, by simp⟩ (H.alloc _)

/-- For the library's contracts on a map's keys. -/
theorem mapZ_owns (H : Holds e w (mapZ b N D :: R)) (hk : P.underlying kt = some (.int .i64)) (hN : N ≤ 4611686018427387904) :
    ∃ D0 : DataW Unit, w.ownsMap P kt (fun _ => some (.nil, [])) b N D0 ∧ Maps.size D0 ≤ N ∧ ∀ ss : List Int, ss.Perm (intKeys D0) → ss.Nodup ∧ ∀ x, x ∈ ss ↔ (D x).isSome = true := by
  obtain ⟨es, clock, F, h⟩ := mapZ_open H
  have hsz := F.size
  have hmx : N ≤ maxLen := by unfold maxLen; omega
  have rdz : ∀ x ∈ es.toList, ∃ k : Int, x.key = .int .i64 k ∧ WideElems.rd (H := Unit) P kt (fun _ => some (.nil, [])) x = some (.int .i64 k, .nil) := fun x hx => by
    obtain ⟨k, k1, k2, k3, _⟩ := F.each x hx
    refine ⟨k, k1, ?_⟩
    have hw : (Lit.int .i64 k).wf = true := WalkArith.wf_i64 (by omega)
    unfold WideElems.rd
    rw [k1, Maps.keyOf_int_mk hk hw]
    rfl
  refine ⟨_, ⟨es, clock, h.get, ⟨by omega, F.stamped, fun x hx => let ⟨k, _, h⟩ := rdz x hx; ⟨_, h⟩⟩, hsz, rfl⟩, ?_, ?_⟩
  · show List.length _ ≤ N
    rw [length_sorted]
    simpa using hsz
  · intro ss hss
    have hp : (intKeys (DataW.map ((es.toList.map (WideElems.rg (H := Unit) P kt (fun _ => some (.nil, [])))).foldr DataW.insert []))).Perm (es.toList.map fun x => Go.intOf (WideElems.rg (H := Unit) P kt (fun _ => some (.nil, [])) x).1) := by
      have := (WideShapes.sorted_perm (es.toList.map (WideElems.rg (H := Unit) P kt (fun _ => some (.nil, []))))).map fun p => Go.intOf p.1
      simpa [intKeys, List.map_map, Function.comp_def] using this
    have hq := hss.trans hp
    have hrg : ∀ x ∈ es.toList, ∃ k : Int, x.key = .int .i64 k ∧ Go.intOf (WideElems.rg (H := Unit) P kt (fun _ => some (.nil, [])) x).1 = k := fun x hx => by
      obtain ⟨k, k1, k2⟩ := rdz x hx
      exact ⟨k, k1, by rw [WideElems.rg_of k2]; rfl⟩
    constructor
    · refine hq.nodup_iff.2 (List.pairwise_map.2 ((List.pairwise_map.1 F.stamped.2.2).imp_of_mem fun {x y} hx hy hne he => hne ?_))
      obtain ⟨k, hk1, hk2⟩ := hrg x hx
      obtain ⟨j, hj1, hj2⟩ := hrg y hy
      rw [hk2, hj2] at he
      rw [hk1, hj1, he]
    · intro x
      rw [hq.mem_iff, List.mem_map]
      constructor
      · rintro ⟨y, hy, rfl⟩
        obtain ⟨k, hk1, hk2⟩ := hrg y hy
        obtain ⟨j, hj1, _, _, hj2⟩ := F.each y hy
        have : j = k := by rw [hk1] at hj1; cases hj1; rfl
        subst this
        rw [hk2, hj2]; rfl
      · intro hd
        obtain ⟨v, hv⟩ := Option.isSome_iff_exists.1 hd
        obtain ⟨y, hy, hyk⟩ := F.cover x v hv
        obtain ⟨k, hk1, hk2⟩ := hrg y hy
        have : k = x := by rw [hk1] at hyk; cases hyk; rfl
        exact ⟨y, hy, by rw [hk2, this]⟩
end
end Go.Proofs.YtheblkofemobdaaGreat

/-
  The keys of a map, sorted, but for some: the library's contracts in the separation logic.
-/
namespace Go.Proofs.YtheblkofemobdaaGreat
open Go.RowKit

section
variable {e : Env} {w w' : World} {R A : List HP}
/-- What lay before is there behind a call that wrote to nothing of it. -/
theorem Holds.under (H : Holds e w A) (hb : Below w.heap.size w w') : Holds e w' A :=
  ⟨hb.os.trans H.os, hb.output.trans H.output, hb.tape.trans H.tape, H.sat.mono fun b _ g => (hb.block b (Array.getElem?_eq_some_iff.1 g).1).trans g⟩
theorem Holds.below_row (H : Holds e w A) (hb : Below w.heap.size w w') {T : TypeId} {size n : Nat} {v : Value} {xs : List Value} (hr : w'.ownsRow w.heap.size T size v n xs) : Holds e w' (row v T size n xs :: A) := by
  refine ⟨hb.os.trans H.os, hb.output.trans H.output, hb.tape.trans H.tape, fun b => if b < w.heap.size then none else w'.heap[b]?, fun b => w.heap[b]?, fun b => ?_, fun b o g => ?_, fun b o g => (hb.block b (Array.getElem?_eq_some_iff.1 g).1).trans g, ?_, H.sat⟩
  · by_cases h : b < w.heap.size
    · left; simp [h]
    · right; exact Array.getElem?_eq_none (by omega)
  · by_cases h : b < w.heap.size
    · simp [h] at g
    · simpa [h] using g
  · obtain ⟨h1, h2⟩ := hr
    refine ⟨h1, h2.imp id ?_⟩
    rintro ⟨g, cap, cur, rfl, hbase, hg, h3, h4, h5, h6⟩
    exact ⟨g, cap, cur, rfl, by simp only [if_neg (show ¬ g < w.heap.size by omega)]; exact hg, h3, h4, h5, h6⟩
/-- A block written, new ones laid. -/
theorem Holds.but {g : Nat} {o o' : Obj} (H : Holds e w (pts g o :: A)) (h1 : w'.os = w.os) (h2 : w'.output = w.output) (h3 : w'.tape = w.tape) (hg : w'.heap[g]? = some o') (hk : ∀ k, k < w.heap.size → k ≠ g → w'.heap[k]? = w.heap[k]?) : Holds e w' (pts g o' :: A) := by
  obtain ⟨p, q, r, f1, f2, d, e1, e2, x, s⟩ := H
  have h2b : f2 g = none := by
    rcases d g with y | y
    · rw [show f1 g = some o from x] at y; cases y
    · exact y
  refine ⟨h1.trans p, h2.trans q, h3.trans r, fun k => if k = g then some o' else none, f2, ?_, ?_, ?_, by simp [pts], s⟩
  · intro b
    by_cases hb : b = g
    · right; subst hb; exact h2b
    · left; simp [hb]
  · intro b u y
    by_cases hb : b = g
    · subst hb; simp at y; subst y; exact hg
    · simp [hb] at y
  · intro b u y
    have hne : b ≠ g := by rintro rfl; rw [h2b] at y; cases y
    have hw := e2 b u y
    exact (hk b (Array.getElem?_eq_some_iff.1 hw).1 hne).trans hw
theorem Holds.sortWorld {g n : Nat} {cur : Array Value} {T : TypeId} {fr : Nat × Nat} (H : Holds e w (pts g (.cells cur T fr) :: A)) (d : Array Int) (os : Array Obj) :
    Holds e (Go.Proofs.sortWorld (Value.int .i64) w g 0 n d os) (pts g (.cells (Go.Sort.putCells (Value.int .i64) 0 d cur) T fr) :: A) := by
  refine H.but rfl rfl rfl (heap_sortedI d H.get) fun k hk hne => ?_
  unfold Go.Proofs.sortWorld
  rw [Go.Sort.heap_grow_old _ _ (by simpa using hk)]
  simp [Go.Sort.putRow, Go.Sort.mapBlock, Go.Sort.ahead, Array.getElem?_modify, Ne.symm hne]

def nums (D : Int → Option Value) (bs : List Int) (N : Nat) : List Nat := (List.range N).filter fun n => (D n).isSome && decide ((n : Int) ∉ bs)
theorem nums_mem {D : Int → Option Value} {bs : List Int} {N n : Nat} : n ∈ nums D bs N ↔ n < N ∧ (D n).isSome = true ∧ (n : Int) ∉ bs := by simp [nums]
theorem nums_sorted (D : Int → Option Value) (bs : List Int) (N : Nat) : (nums D bs N).Pairwise (· < ·) := List.Pairwise.filter _ List.pairwise_lt_range
theorem nums_length (D : Int → Option Value) (bs : List Int) (N : Nat) : (nums D bs N).length ≤ N := by
  have := List.length_filter_le (fun n : Nat => (D n).isSome && decide ((n : Int) ∉ bs)) (List.range N)
  simpa [nums] using this
theorem nums_but (D : Int → Option Value) (bs : List Int) (N : Nat) : (nats (nums D [] N)).filter (fun x => !decide (x ∈ bs)) = nats (nums D bs N) := by
  unfold nats nums
  rw [List.filter_map, List.filter_filter]
  congr 1
  apply List.filter_congr
  intro x _
  simp [Bool.and_comm]
/-- The keys, sorted. -/
theorem nums_of {D : Int → Option Value} {N : Nat} (hD : ∀ x, (D x).isSome = true → 0 ≤ x ∧ x < N) {ss : List Int} (hn : ss.Nodup) (hm : ∀ x, x ∈ ss ↔ (D x).isSome = true) : ss.mergeSort (fun x y => decide (x ≤ y)) = nats (nums D [] N) := by
  have h1 : ss.Perm (nats (nums D [] N)) := by
    refine (List.perm_ext_iff_of_nodup hn ?_).2 fun x => ?_
    · refine List.pairwise_map.2 ((nums_sorted D [] N).imp fun {a b} h => by omega)
    · rw [hm, nats, List.mem_map]
      constructor
      · intro h
        obtain ⟨h0, h1⟩ := hD x h
        exact ⟨x.toNat, nums_mem.2 ⟨by omega, by rw [show ((x.toNat : Nat) : Int) = x by omega]; exact h, by simp⟩, by omega⟩
      · rintro ⟨n, hn, rfl⟩
        exact (nums_mem.1 hn).2.1
  rw [mergeSort_of_perm_i h1]
  refine List.mergeSort_of_pairwise ?_
  refine List.pairwise_map.2 ((nums_sorted D [] N).imp fun {a b} h => ?_)
  simp only [leI, decide_eq_true_eq]
  omega
end

section
variable {e : Env} {w : World} {R : List HP}
theorem keysC (m : Nat) (w : World) : Calls Tryz.prog 111 #[.map (some m)] w (fun en w' => en = .returned (.func (.func 125) #[] #[.pointer (some ⟨w.heap.size, 0, none⟩)]) ∧ w' = w.alloc (.cells #[.map (some m)] 114)) :=
  (callsIn_wide (n := 5)).1 (AnyZI.keys_in Tryz.keysL Fence.wide 5 trivial rfl (some m) w)
theorem sortsL (m : Nat) : AnyZI.SortsIn Tryz.prog Tryz.sortedL_ren Fence.wide m :=
  ⟨fun blk off cap ss W hH hblk hsz => callsIn_wide.2 (Any.slices_Sort_int Tryz.sortL blk off cap ss W hH hblk hsz),
   fun p cap W => callsIn_wide.2 (Any.slices_Sort_int_none Tryz.sortL p cap W)⟩
theorem sortedC {bx m N : Nat} {D : Int → Option Value} (H : Holds e w (pts bx (.cells #[.map (some m)] 114 (0, 0)) :: mapZ m N D :: R)) (hN : N ≤ 1000000) (hD : ∀ x, (D x).isSome = true → 0 ≤ x ∧ x < N) :
    Calls Tryz.prog 110 #[.func (.func 125) #[] #[.pointer (some ⟨bx, 0, none⟩)]] w
      (RetEx e (fun v : Value => v) (fun v => row v 3 1 (nums D [] N).length (ints (nats (nums D [] N))) :: pts bx (.cells #[.map (some m)] 114 (0, 0)) :: mapZ m N D :: R)) := by
  obtain ⟨D0, hown, hsz, hss⟩ := mapZ_owns (P := Tryz.prog) H.swap (kt := 3) (by kernel_rfl) (by omega)
  have hseq : SeqGives Fence.wide 2 Tryz.prog 125 #[.pointer (some ⟨bx, 0, none⟩)] encZ (fun ss => ss.Perm (intKeys D0)) (Maps.size D0) w :=
    AnyZI.keys_gives (ρ := Tryz.keysL_ren) { Tryz.keysL with } Fence.wide _ trivial rfl (by omega) bx m N D0 _ H.lt (H.cells 0) hown
  have cS := AnyZI.sorted_in Tryz.sortedL Fence.wide 5 trivial trivial trivial trivial rfl (by omega) (sortsL _) (enters_of Tryz.func98 (by kernel_rfl) rfl) 125 #[.pointer (some ⟨bx, 0, none⟩)] trivial (enters_of Tryz.func125 (by kernel_rfl) rfl) _ (Maps.size D0) (by unfold maxLen; omega) (by omega) _ hseq
  refine (callsIn_wide.1 cS).mono ?_
  rintro en w1 ⟨v, ss, rfl, hS, hrow, _, hb⟩
  obtain ⟨hn, hm⟩ := hss ss hS
  have hl : ss.length = (nums D [] N).length := by
    have := congrArg List.length (nums_of hD hn hm)
    simpa using this
  rw [nums_of hD hn hm, hl] at hrow
  exact ⟨v, rfl, H.below_row hb hrow⟩

/-- The closure: is it one of bs? -/
theorem butC {bx : Nat} {vb : Value} {bs : List Int} (H : Holds e w (pts bx (.cells #[vb] 43 (0, 0)) :: row vb 3 1 bs.length (ints bs) :: R)) (hb : bs.length ≤ 1000000) (x : Int) :
    Calls Tryz.prog 113 #[.int .i64 x, .pointer (some ⟨bx, 0, none⟩)] w (Quiet w (.bool (decide (x ∈ bs)))) := by
  have ct := slContains bs x vb (by omega) (row.reads H.swap)
  obtain ⟨a, c, rfl⟩ := row_shape H.swap
  have hc := H.cells
  clear H
  go_enter Tryz.func113, Tryz.ntmps113
  go_wp2_with fail
  refine ct.mono ?_
  rintro e w1 ⟨rfl, n1, rfl⟩
  go_wp2
  go_ret
  exact ⟨rfl, _, rfl⟩
theorem deleteC_nil (fv : Value) (w : World) : Calls Tryz.prog 112 #[.slice none 0 0, fv] w (Quiet w (.slice none 0 0)) := by
  have ci : ∀ w, Calls Tryz.prog 126 #[.slice none 0 0, fv] w (Quiet w (.int .i64 (-1))) := fun w => by
    go_enter Tryz.func126, Tryz.ntmps126
    go_wp2
    go_loopw [8] (fun i wr => i = .int .i64 0 ∧ wr = w) (fun _ _ => 0)
    case atStart => exact ⟨rfl, rfl⟩
    case round =>
      obtain ⟨rfl, rfl⟩ := hrel
      go_wp2
      go_ret
      exact ⟨rfl, 0, rfl⟩
  go_enter Tryz.func112, Tryz.ntmps112
  go_wp2_with fail
  refine (ci _).mono ?_
  rintro e w1 ⟨rfl, n1, rfl⟩
  go_wp2
  go_ret
  exact ⟨rfl, _, rfl⟩
theorem deleteC {v : Value} {l : List Int} {bx : Nat} {vb : Value} {bs : List Int} (H : Holds e w (row v 3 1 l.length (ints l) :: pts bx (.cells #[vb] 43 (0, 0)) :: row vb 3 1 bs.length (ints bs) :: R)) (hl : l.length ≤ 1000000) (hb : bs.length ≤ 1000000) :
    Calls Tryz.prog 112 #[v, .func (.func 113) #[] #[.pointer (some ⟨bx, 0, none⟩)]] w
      (RetEx e (fun v : Value => v) (fun v => row v 3 1 (l.filter fun x => !decide (x ∈ bs)).length (ints (l.filter fun x => !decide (x ∈ bs))) :: pts bx (.cells #[vb] 43 (0, 0)) :: row vb 3 1 bs.length (ints bs) :: R)) := by
  rcases (row.open H).2 with ⟨rfl, h0⟩ | ⟨g, cap, cur, rfl, h1, h2, h3, h4, h5⟩
  · obtain rfl : l = [] := List.eq_nil_of_length_eq_zero h0
    refine (deleteC_nil _ w).mono ?_
    rintro en w1 ⟨rfl, n1, rfl⟩
    exact ⟨_, rfl, H.drewN n1⟩
  · rw [Nat.mul_one] at h3 h4
    have hH := holds_of_blockI (ss := l) h5.get h4
    have hp : PredAt Tryz.prog 113 #[.pointer (some ⟨bx, 0, none⟩)] (Value.int .i64) (fun x => decide (x ∈ bs)) w := fun W x hbl => butC (h5.drop.under hbl) hb x
    have ho : PredOver Tryz.prog 113 #[.pointer (some ⟨bx, 0, none⟩)] (Value.int .i64) (fun x => decide (x ∈ bs)) g 0 l.toArray.size w := fun n os dk x _ => butC (h5.sortWorld dk os).drop hb x
    have hcon := AnyE.slices_DeleteFunc Tryz.deleteL (Value.int .i64) (fun _ => rfl) (fun x => decide (x ∈ bs)) 113 #[.pointer (some ⟨bx, 0, none⟩)] (enters_of Tryz.func113 (by kernel_rfl) rfl) 0 Tryz.zeroValue3 g 0 cap l.toArray w hp ho hH (by simp; omega) (by simpa using h1)
    change Calls Tryz.prog 112 _ _ _ at hcon
    refine hcon.mono ?_
    rintro en w1 ⟨rfl, q, rfl⟩
    have hf := List.length_filter_le (fun x => !decide (x ∈ bs)) l
    generalize hr : l.filter (fun x => !decide (x ∈ bs)) = r at *
    refine ⟨_, rfl, ?_⟩
    have h6 := h5.sortWorld (n := q) (r ++ List.replicate (l.length - r.length) 0).toArray #[]
    unfold Go.Proofs.sortWorld at h6
    rw [Go.Sort.grow_empty] at h6
    have h7 := row.made (n := r.length) (cap := cap) (size := 1) (xs := ints r) h6 (by omega) h2 (by simp [Go.Sort.putCells, h3]) ?_
    · simpa using h7
    · have := take_putCellsI cur (r ++ List.replicate (l.length - r.length) 0) (by simp; omega)
      have h8 := congrArg (List.take r.length) this
      rw [List.take_take, Nat.min_eq_left (by simp)] at h8
      rw [Nat.mul_one, h8]
      simp [ints]
end
end Go.Proofs.YtheblkofemobdaaGreat

/-
  Package group: the book.
-/
namespace Go.Proofs.YtheblkofemobdaaGreat
open Go.RowKit

abbrev Bk := Nat → Option (Nat × Nat)
def hasV (p : Nat × Nat) : Value := .agg #[.int .i64 p.1, .int .i64 p.2]
def bz (B : Bk) : Int → Option Value := fun k => if 0 ≤ k ∧ k < 4096 then (B k.toNat).map hasV else none
def bput (B : Bk) (n : Nat) (p : Nat × Nat) : Bk := fun k => if k = n then some p else B k
def bdel (B : Bk) (n : Nat) : Bk := fun k => if k = n then none else B k
theorem bz_put {B : Bk} {n : Nat} (hn : n < 4096) (p : Nat × Nat) : mput (bz B) n (hasV p) = bz (bput B n p) := by
  funext k
  unfold mput bz bput
  by_cases hk : k = n
  · subst hk; simp; omega
  · rw [if_neg hk]
    by_cases h0 : 0 ≤ k ∧ k < 4096
    · rw [if_pos h0, if_pos h0, if_neg (by omega)]
    · rw [if_neg h0, if_neg h0]
theorem bz_del {B : Bk} (n : Nat) : mdel (bz B) n = bz (bdel B n) := by
  funext k
  unfold mdel bz bdel
  by_cases hk : k = n
  · subst hk; simp
  · rw [if_neg hk]
    by_cases h0 : 0 ≤ k ∧ k < 4096
    · rw [if_pos h0, if_pos h0, if_neg (by omega)]
    · rw [if_neg h0, if_neg h0]
theorem bz_nat {B : Bk} {n : Nat} (hn : n < 4096) : bz B (n : Int) = (B n).map hasV := by
  unfold bz; rw [if_pos (by omega), Int.toNat_natCast]
theorem bz_dom {B : Bk} : ∀ x, (bz B x).isSome = true → 0 ≤ x ∧ x < (4096 : Nat) := by
  intro x h
  unfold bz at h
  by_cases h0 : 0 ≤ x ∧ x < 4096
  · exact h0
  · rw [if_neg h0] at h; cases h
def grpB (b : Nat) (B : Bk) : HP := exh fun m : Nat => grp [pts b (.cells #[.map (some m)] 116 (0, 0)), mapZ m 4096 (bz B)]
def bnums (B : Bk) (bs : List Int) : List Nat := (List.range 4096).filter fun n => (B n).isSome && decide ((n : Int) ∉ bs)
theorem nums_b (B : Bk) (bs : List Int) : nums (bz B) bs 4096 = bnums B bs := by
  unfold nums bnums
  apply List.filter_congr
  intro x hx
  rw [bz_nat (List.mem_range.1 hx)]
  simp

section
variable {e : Env} {w : World} {R : List HP} {b : Nat} {B : Bk}
theorem book_open (H : Holds e w (grpB b B :: R)) : ∃ m, Holds e w (pts b (.cells #[.map (some m)] 116 (0, 0)) :: mapZ m 4096 (bz B) :: R) := by
  obtain ⟨m, h⟩ := Holds.exE H
  exact ⟨m, h.ungrp⟩
theorem book_close {m : Nat} (H : Holds e w (pts b (.cells #[.map (some m)] 116 (0, 0)) :: mapZ m 4096 (bz B) :: R)) : Holds e w (grpB b B :: R) :=
  Holds.mkExh m (Holds.mkGrp (L := [pts _ _, mapZ _ _ _]) H)
theorem gNew (H : Holds e w R) : Calls Tryz.prog 39 #[] w (RetEx e (fun b : Nat => .pointer (some ⟨b, 0, none⟩)) (fun b => grpB b (fun _ => none) :: R)) := by
  have hmk : ∀ w : World, (Instr.makeMap 114 none).run Tryz.prog w = .ok (.map (some w.heap.size)) (w.alloc (.map #[] 0)) := fun _ => rfl
  have H1 := (mapZ_made H 4096).alloc (.cells #[.map (some w.heap.size)] 116)
  rw [World.size_alloc] at H1
  go_enter Tryz.func39, Tryz.ntmps39
  go_wp2_with fail
  go_ret
  refine ⟨_, rfl, book_close (m := w.heap.size) ?_⟩
  have e1 : bz (fun _ => none) = fun _ => none := by funext k; unfold bz; split <;> rfl
  rw [e1]
  exact H1
set_option maxRecDepth 100000 in
set_option maxHeartbeats 400000 in
theorem gPut (H : Holds e w (grpB b B :: R)) {n u m : Nat} (hn : n ≤ 4095) (hu : u ≤ m) : Calls Tryz.prog 79 #[.pointer (some ⟨b, 0, none⟩), .int .i64 n, .int .i64 u, .int .i64 m] w (Ret e (.bool true) (grpB b (bput B n (u, m)) :: R)) := by
  obtain ⟨q, h⟩ := book_open H
  have hc := h.cells
  obtain ⟨w1, hmu, h1⟩ := mapZ_update (P := Tryz.prog) (t := 114) (kt := 3) (et := 132) h.swap (by kernel_rfl) (by kernel_rfl) (x := n) (by omega) (by omega) (hasV (u, m))
  rw [bz_put (by omega)] at h1
  unfold hasV at hmu
  have HR := Lib.hid (book_close h1.swap)
  clear h h1 H
  go_enter Tryz.func79, Tryz.ntmps79
  go_wp2_with fail
  go_ret
  exact ⟨rfl, HR.out⟩
set_option maxRecDepth 100000 in
set_option maxHeartbeats 400000 in
theorem gDrop (H : Holds e w (grpB b B :: R)) {n : Nat} (hn : n ≤ 4095) : Calls Tryz.prog 80 #[.pointer (some ⟨b, 0, none⟩), .int .i64 n] w (Ret e (.bool (B n).isSome) (grpB b (bdel B n) :: R)) := by
  obtain ⟨q, h⟩ := book_open H
  have hc := h.cells
  have hl : ∀ w, (zeroValue 132).run Tryz.prog w = .ok (.agg #[.int .i64 0, .int .i64 0]) w := fun w => by kernel_rfl
  have hlk := mapZ_lookup (P := Tryz.prog) (t := 114) (kt := 3) (et := 132) h.swap (by kernel_rfl) (by kernel_rfl) (hl w) true (n : Int)
  rw [bz_nat (by omega), if_pos rfl, Option.isSome_map] at hlk
  obtain ⟨u, m, hum⟩ : ∃ u m : Int, ((B n).map hasV).getD (.agg #[.int .i64 0, .int .i64 0]) = .agg #[.int .i64 u, .int .i64 m] := by
    cases B n with
    | none => exact ⟨0, 0, rfl⟩
    | some p => exact ⟨p.1, p.2, rfl⟩
  rw [hum] at hlk
  have h2 := h.alloc (.cells #[.int .i64 u, .int .i64 m] 132)
  have hde := mapZ_delete (P := Tryz.prog) (t := 114) (kt := 3) (et := 132) h2.p2 (by kernel_rfl) (by kernel_rfl) 0 (n : Int)
  obtain ⟨w1, hd, h3⟩ := hde
  rw [bz_del] at h3
  have hc2 := h2.swap.cells
  have HR := Lib.hid (book_close h3.swap.drop.swap)
  clear h3 h2 h H hum hl
  go_enter Tryz.func80, Tryz.ntmps80
  go_wp2_with fail
  go_ret
  exact ⟨rfl, HR.out⟩

theorem gFree (u m : Nat) (hu : u ≤ m) (hm : m ≤ 1000000) (H : Holds e w R) : Calls Tryz.prog 89 #[hasV (u, m)] w (Ret e (.int .i64 ((m - u : Nat) : Int)) R) := by
  have H1 := H.alloc (.cells #[.int .i64 u, .int .i64 m] 132)
  unfold hasV
  go_enter Tryz.func89, Tryz.ntmps89
  go_wp2_with fail
  go_ret
  exact ⟨by rw [show ((m - u : Nat) : Int) = (m : Int) - u by omega]; rfl, H1.drop⟩
def ofG (u m : Nat) : Nat := if m < 1 ∨ m ≤ u then 4 else if u < 1 then 0 else if u ≤ m / 3 then 1 else if u ≤ (2 * m) / 3 then 2 else 3
theorem gTwo (m : Nat) (hm : m ≤ 1000000) (w : World) : Calls Tryz.prog 114 #[.int .i64 m] w (Quiet w (.int .i64 ((2 * m / 3 : Nat) : Int))) := by
  obtain ⟨q, r, hq, hr⟩ : ∃ q r, m = 3 * q + r ∧ r < 3 := ⟨m / 3, m % 3, by omega, by omega⟩
  have d1 : (m : Int) / 3 = (q : Int) := by omega
  have d2 : (m : Int) % 3 = (r : Int) := by omega
  have hq2 : q ≤ 1000000 := by omega
  by_cases h0 : r = 0
  · have e1 : ((m : Int) % 3 != 0) = false := by simp; omega
    have e2 : Hid (((2 * m / 3 : Nat) : Int) = (m : Int) - q) := Lib.hid (by omega)
    clear hq h0 hr d2
    go_enter Tryz.func114, Tryz.ntmps114
    go_wp2_with fail
    go_ret
    exact ⟨by rw [e2.out]; rfl, 0, rfl⟩
  · have e1 : ((m : Int) % 3 != 0) = true := by simp; omega
    have e2 : Hid (((2 * m / 3 : Nat) : Int) = (m : Int) - q - 1) := Lib.hid (by omega)
    clear hq h0 hr d2
    go_enter Tryz.func114, Tryz.ntmps114
    go_wp2_with fail
    go_ret
    exact ⟨by rw [e2.out]; rfl, 0, rfl⟩
theorem gOf (u m : Nat) (hm : m ≤ 1000000) (hu : u ≤ 1000000) (w : World) : Calls Tryz.prog 88 #[.int .i64 u, .int .i64 m] w (Quiet w (.int .i64 (ofG u m))) := by
  have c2 := fun w => gTwo m hm w
  obtain ⟨t, ht⟩ : ∃ t, 2 * m / 3 = t := ⟨_, rfl⟩
  obtain ⟨q, hq⟩ : ∃ q, m / 3 = q := ⟨_, rfl⟩
  have d1 : (m : Int) / 3 = (q : Int) := by omega
  have ho : Hid (ofG u m = if m < 1 ∨ m ≤ u then 4 else if u < 1 then 0 else if u ≤ q then 1 else if u ≤ t then 2 else 3) := Lib.hid (by rw [ofG, hq, ht])
  rw [ht] at c2
  have ht2 : t ≤ 2000000 := by omega
  have hq2 : q ≤ 2000000 := by omega
  clear ht hq
  by_cases h1 : m < 1 ∨ m ≤ u
  · have h2 : Hid (ofG u m = 4) := Lib.hid (by rw [ho.out, if_pos h1])
    by_cases h3 : m < 1
    · go_enter Tryz.func88, Tryz.ntmps88
      go_wp2_with fail
      go_ret
      exact ⟨by rw [h2.out]; rfl, 0, rfl⟩
    · have h4 : m ≤ u := by omega
      go_enter Tryz.func88, Tryz.ntmps88
      go_wp2_with fail
      go_ret
      exact ⟨by rw [h2.out]; rfl, 0, rfl⟩
  · have h1a : 1 ≤ m := by omega
    have h1b : u < m := by omega
    have ho2 : Hid (ofG u m = if u < 1 then 0 else if u ≤ q then 1 else if u ≤ t then 2 else 3) := Lib.hid (by rw [ho.out, if_neg h1])
    clear h1
    by_cases h3 : u < 1
    · have h2 : Hid (ofG u m = 0) := Lib.hid (by rw [ho2.out, if_pos h3])
      go_enter Tryz.func88, Tryz.ntmps88
      go_wp2_with fail
      go_ret
      exact ⟨by rw [h2.out]; rfl, 0, rfl⟩
    · have h3a : 1 ≤ u := by omega
      by_cases h4 : u ≤ q
      · have h2 : Hid (ofG u m = 1) := Lib.hid (by rw [ho2.out, if_neg h3, if_pos h4])
        go_enter Tryz.func88, Tryz.ntmps88
        go_wp2_with fail
        go_ret
        exact ⟨by rw [h2.out]; rfl, 0, rfl⟩
      · have h4a : q < u := by omega
        by_cases h5 : u ≤ t
        · have h2 : Hid (ofG u m = 2) := Lib.hid (by rw [ho2.out, if_neg h3, if_neg h4, if_pos h5])
          go_enter Tryz.func88, Tryz.ntmps88
          go_wp2_with fail
          refine (c2 _).mono ?_
          rintro e w1 ⟨rfl, n1, rfl⟩
          go_wp2_with fail
          go_ret
          exact ⟨by rw [h2.out]; rfl, _, rfl⟩
        · have h5a : t < u := by omega
          have h2 : Hid (ofG u m = 3) := Lib.hid (by rw [ho2.out, if_neg h3, if_neg h4, if_neg h5])
          go_enter Tryz.func88, Tryz.ntmps88
          go_wp2_with fail
          refine (c2 _).mono ?_
          rintro e w1 ⟨rfl, n1, rfl⟩
          go_wp2_with fail
          go_ret
          exact ⟨by rw [h2.out]; rfl, _, rfl⟩
theorem ofG_full {u m : Nat} : ofG u m = 4 ↔ m ≤ u := by
  unfold ofG
  split
  · omega
  · split <;> (try split) <;> (try split) <;> omega
end
end Go.Proofs.YtheblkofemobdaaGreat

/-
  Package group: the book's numbers, its best and its worst.
-/
namespace Go.Proofs.YtheblkofemobdaaGreat
open Go.RowKit

section
variable {e : Env} {w : World} {R : List HP} {b : Nat} {B : Bk}
set_option maxRecDepth 100000 in
theorem gNumbers {vb : Value} {bs : List Int} (H : Holds e w (grpB b B :: row vb 3 1 bs.length (ints bs) :: R)) (hb : bs.length ≤ 1000000) :
    Calls Tryz.prog 87 #[.pointer (some ⟨b, 0, none⟩), vb] w
      (RetEx e (fun v : Value => v) (fun v => row v 3 1 (bnums B bs).length (ints (nats (bnums B bs))) :: grpB b B :: row vb 3 1 bs.length (ints bs) :: R)) := by
  have hmf : ∀ (fn : Fn) (first cap : Array Value) (w : World), (Instr.makeFunc fn first cap).run Tryz.prog w = .ok (.func fn first cap) w := fun _ _ _ _ => rfl
  obtain ⟨m, h⟩ := book_open H
  obtain ⟨L, hL⟩ : ∃ L, bnums B bs = L := ⟨_, rfl⟩
  rw [hL]
  have HL := Lib.hid hL
  clear hL
  obtain ⟨a, c, rfl⟩ := row_shape h.p2
  have h1 := h.alloc (.cells #[.slice a bs.length c] 43)
  have hc := h1.swap.cells
  clear h H
  go_enter Tryz.func87, Tryz.ntmps87
  go_wp2_with fail
  refine (keysC m _).mono ?_
  rintro en w1 ⟨rfl, hw1⟩
  have h2 : Holds e w1 _ := hw1 ▸ h1.alloc (.cells #[.map (some m)] 114)
  rw [World.size_alloc] at h2 ⊢
  have h3 := h2.p3.swap
  clear h1 hw1 h2 hc
  go_wp2_with fail
  refine (sortedC h3 (by omega) bz_dom).mono ?_
  rintro en w2 ⟨v, rfl, h4⟩
  obtain ⟨av, cv, rfl⟩ := row_shape h4
  dsimp only at h4
  obtain ⟨L0, hL0⟩ : ∃ L0, nums (bz B) [] 4096 = L0 := ⟨_, rfl⟩
  have e1 := nats_length L0
  have e2 : L0.length ≤ 4096 := by rw [← hL0]; exact nums_length _ _ _
  have e3 : (nats L0).filter (fun x => !decide (x ∈ bs)) = nats L := by rw [← hL0, ← HL.out, nums_but, nums_b]
  rw [hL0] at h4
  rw [hL0]
  clear hL0
  have h5 : Holds e w2 (row (.slice av L0.length cv) 3 1 (nats L0).length (ints (nats L0)) :: pts w.heap.size (.cells #[.slice a bs.length c] 43 (0, 0)) :: row (.slice a bs.length c) 3 1 bs.length (ints bs) :: pts b (.cells #[.map (some m)] 116 (0, 0)) :: mapZ m 4096 (bz B) :: R) := by
    rw [e1]
    exact h4.d1.cons fun _ s => Sat.cons (fun _ => Sat.q1) (Sat.q3 s)
  have cd := deleteC h5 (by omega) hb
  rw [e3, nats_length] at cd
  have CD := Lib.hid cd
  clear h3 h4 h5 e1 e3 cd
  go_wp2_with fail
  refine CD.out.mono ?_
  rintro en w3 ⟨v, rfl, h6⟩
  go_wp2_with fail
  go_ret
  exact ⟨v, rfl, (book_close h6.d1.p2.p3.swap).swap⟩
end

def frB (B : Bk) (n : Nat) : Nat := match B n with | some p => p.2 - p.1 | none => 0
def openB (B : Bk) (n : Nat) : Prop := ∃ p, B n = some p ∧ p.1 < p.2
def better (B : Bk) (acc : Option Nat) (n : Nat) : Option Nat :=
  match B n with
  | some p => if p.1 < p.2 then (match acc with | none => some n | some a => if frB B n < frB B a then some n else some a) else acc
  | none => acc
def bestL (B : Bk) (l : List Nat) : Option Nat := l.foldl (better B) none
theorem bestL_snoc (B : Bk) (l : List Nat) (n : Nat) : bestL B (l ++ [n]) = better B (bestL B l) n := by simp [bestL]
theorem bestL_from (B : Bk) {a : Nat} : ∀ (l : List Nat) (acc : Option Nat), l.foldl (better B) acc = some a → acc = some a ∨ (a ∈ l ∧ openB B a)
  | [], acc, h => .inl h
  | n :: l, acc, h => by
    rcases bestL_from B l _ h with h1 | h1
    · unfold better at h1
      split at h1
      · next p hp =>
        split at h1
        · next hlt =>
          split at h1
          · cases h1; exact .inr ⟨by simp, p, hp, hlt⟩
          · split at h1
            · cases h1; exact .inr ⟨by simp, p, hp, hlt⟩
            · exact .inl h1
        · exact .inl h1
      · exact .inl h1
    · exact .inr ⟨by simp [h1.1], h1.2⟩
theorem bestL_open (B : Bk) {l : List Nat} {a : Nat} (h : bestL B l = some a) : a ∈ l ∧ openB B a := by
  rcases bestL_from B l none h with h1 | h1
  · cases h1
  · exact h1
def bestB (B : Bk) (bs : List Int) : Option Nat := bestL B (bnums B bs)
structure BkOk (B : Bk) : Prop where
  le : ∀ n p, B n = some p → n < 4096 ∧ p.1 ≤ p.2 ∧ p.2 ≤ 1000000

section
variable {e : Env} {w : World} {R : List HP} {b : Nat} {B : Bk}
set_option maxRecDepth 100000 in
set_option maxHeartbeats 1000000 in
theorem gBest {vb : Value} {bs : List Int} (H : Holds e w (grpB b B :: row vb 3 1 bs.length (ints bs) :: R)) (hb : bs.length ≤ 1000000) (hB : BkOk B) :
    Calls Tryz.prog 53 #[.pointer (some ⟨b, 0, none⟩), vb] w
      (Ret e (.tuple #[.int .i64 (((bestB B bs).getD 0 : Nat) : Int), .bool (bestB B bs).isSome]) (grpB b B :: row vb 3 1 bs.length (ints bs) :: R)) := by
  have CN := Lib.hid (gNumbers H hb)
  have hz : ∀ w, (zeroValue 132).run Tryz.prog w = .ok (.agg #[.int .i64 0, .int .i64 0]) w := fun w => by kernel_rfl
  obtain ⟨va, vc, rfl⟩ := row_shape H.swap
  clear H
  obtain ⟨L, hL⟩ : ∃ L, bnums B bs = L := ⟨_, rfl⟩
  have hmem : ∀ n ∈ L, n < 4096 ∧ ∃ p, B n = some p := fun n hn => by
    rw [← hL] at hn
    simp only [bnums, List.mem_filter, List.mem_range, Bool.and_eq_true] at hn
    exact ⟨hn.1, Option.isSome_iff_exists.1 hn.2.1⟩
  have hlen : L.length ≤ 4096 := by rw [← hL, ← nums_b]; exact nums_length _ _ _
  have HBE : Hid (bestB B bs = bestL B L) := Lib.hid (by rw [bestB, hL])
  rw [hL] at CN
  clear hL
  go_enter Tryz.func53, Tryz.ntmps53
  go_wp2_with fail
  refine CN.out.mono ?_
  rintro en w1 ⟨v, rfl, H1⟩
  obtain ⟨av, cv, rfl⟩ := row_shape H1
  clear CN
  go_wp2_with fail
  go_loopw [6, 7, 15] (fun x y i wr => ∃ k, k ≤ L.length ∧ i = .int .i64 (k : Nat) ∧ x = .int .i64 (((bestL B (L.take k)).getD 0 : Nat) : Int) ∧ y = .bool (bestL B (L.take k)).isSome ∧ Holds e wr (row (.slice av L.length cv) 3 1 L.length (ints (nats L)) :: grpB b B :: row (.slice va bs.length vc) 3 1 bs.length (ints bs) :: R)) (fun _ _ i _ => L.length - (intOf i).toNat)
  case atStart => exact ⟨0, by omega, rfl, rfl, rfl, H1⟩
  case round =>
    obtain ⟨k, hk, rfl, rfl, rfl, HX⟩ := hrel
    by_cases hlt : k < L.length
    · obtain ⟨n, hn⟩ : ∃ n, L.getD k 0 = n := ⟨_, rfl⟩
      obtain ⟨hn4, ⟨u, m⟩, hnB⟩ := hmem n (hn ▸ getD_mem hlt)
      have hle := hB.le n _ hnB
      dsimp only at hle
      have hgn : L[k]? = some n := by rw [get_getD (d := 0) hlt, hn]
      have HTK : Hid (bestL B (L.take (k + 1)) = better B (bestL B (L.take k)) n) := Lib.hid (by rw [List.take_add_one, hgn]; exact bestL_snoc _ _ _)
      obtain ⟨g, o, rfl, hrd⟩ := (row.reads HX).at (by omega)
      have q0 : wr.cell? ⟨g, o + k, none⟩ = some (.int .i64 n) := hrd k _ (by rw [ints_get (get_getD (d := 0) (by simpa using hlt)), nats_getD, hn])
      obtain ⟨q, HY⟩ := book_open HX.swap
      have q1 := HY.cells 0
      have q2 := mapZ_lookup (P := Tryz.prog) (t := 114) (kt := 3) (et := 132) HY.swap (by kernel_rfl) (by kernel_rfl) (hz _) false (n : Int)
      rw [bz_nat hn4, hnB] at q2
      simp only [Bool.false_eq_true, if_false, Option.map_some, Option.getD_some] at q2
      unfold hasV at q2
      have HZ := HY.alloc (.cells #[.int .i64 u, .int .i64 m] 132)
      clear hrd hn hgn HX
      generalize hbp : wr.heap.size = bp at HZ
      have cf : ∀ (w' : World) A, Holds e w' A → Calls Tryz.prog 89 #[.agg #[.int .i64 u, .int .i64 m]] w' (Ret e (.int .i64 ((m - u : Nat) : Int)) A) := fun w' A h => gFree u m hle.2.1 hle.2.2 h
      obtain ⟨acc, hacc⟩ : ∃ acc, bestL B (L.take k) = acc := ⟨_, rfl⟩
      have hop : ∀ a, acc = some a → openB B a := fun a ha => (bestL_open B (ha ▸ hacc)).2
      rw [hacc] at HTK ⊢
      clear hacc
      obtain ⟨og, hog⟩ : ∃ og, ofG u m = og := ⟨_, rfl⟩
      have cO := fun w' => gOf u m hle.2.2 (by omega) w'
      rw [hog] at cO
      by_cases hf : m ≤ u
      · obtain rfl : og = 4 := by rw [← hog]; exact ofG_full.2 hf
        have HBT : Hid (better B acc n = acc) := Lib.hid (by unfold better; rw [hnB]; exact if_neg (by dsimp only; omega))
        clear hog hf
        go_wp2_with fail
        obtain ⟨I, Wf, hI, hW, hWs⟩ := worlds_of HZ
        have r0 : ∀ i j, (Wf i).cell? ⟨bp, j, none⟩ = #[Value.int .i64 u, .int .i64 m][j]? := fun i => (hW i).cells
        have r1 : ∀ i, (Wf i).cell? ⟨bp, 0, none⟩ = some (.int .i64 u) := fun i => r0 i 0
        have r2 : ∀ i, (Wf i).cell? ⟨bp, 1, none⟩ = some (.int .i64 m) := fun i => r0 i 1
        have CO := Lib.hid fun i => quietQ (cO (Wf i)) (hW i) hWs
        have CF := Lib.hid fun i => quietH (cf (Wf i) _ (hW i)) hWs
        clear r0 cO cf
        refine wp_region_holds hWs HZ (by kernel_rfl) (by kernel_rfl) ?_
        (repeat (go_big_quiet_step ((go_at_call 88; exact CO.out _)))); refine wpQuiet_nil ?_; intro _ hw'; obtain ⟨nq, hw''⟩ := hw'; subst hw''
        go_wp2_with fail
        go_roundw
        case rel => exact ⟨k + 1, by omega, by go_num, by rw [HTK.out, HBT.out]; try rfl, by rw [HTK.out, HBT.out]; try rfl, (book_close (hW nq).drop).swap⟩
        case measure => simp [intOf]; omega
      · have hog4 : ((og : Int) != 4) = true := by
          have : og ≠ 4 := fun h => hf (ofG_full.1 (hog.trans h))
          simp; omega
        clear hog
        cases acc with
        | none =>
          have HBT : Hid (better B none n = some n) := Lib.hid (by unfold better; rw [hnB]; exact if_pos (by dsimp only; omega))
          go_wp2_with fail
          obtain ⟨I, Wf, hI, hW, hWs⟩ := worlds_of HZ
          have r0 : ∀ i j, (Wf i).cell? ⟨bp, j, none⟩ = #[Value.int .i64 u, .int .i64 m][j]? := fun i => (hW i).cells
          have r1 : ∀ i, (Wf i).cell? ⟨bp, 0, none⟩ = some (.int .i64 u) := fun i => r0 i 0
          have r2 : ∀ i, (Wf i).cell? ⟨bp, 1, none⟩ = some (.int .i64 m) := fun i => r0 i 1
          have CO := Lib.hid fun i => quietQ (cO (Wf i)) (hW i) hWs
          have CF := Lib.hid fun i => quietH (cf (Wf i) _ (hW i)) hWs
          clear r0 cO cf
          refine wp_region_holds hWs HZ (by kernel_rfl) (by kernel_rfl) ?_
          (repeat (go_big_quiet_step ((go_at_call 88; exact CO.out _)))); refine wpQuiet_nil ?_; intro _ hw'; obtain ⟨nq, hw''⟩ := hw'; subst hw''
          go_wp2_with fail
          go_roundw
          case rel => exact ⟨k + 1, by omega, by go_num, by rw [HTK.out, HBT.out]; try rfl, by rw [HTK.out, HBT.out]; try rfl, (book_close (hW nq).drop).swap⟩
          case measure => simp [intOf]; omega
        | some a =>
          obtain ⟨⟨ua, ma⟩, hpa, hla⟩ := hop a rfl
          have hBa := hB.le a _ hpa
          dsimp only at hla hBa
          have ca : ∀ (w' : World) A, Holds e w' A → Calls Tryz.prog 89 #[.agg #[.int .i64 ua, .int .i64 ma]] w' (Ret e (.int .i64 ((ma - ua : Nat) : Int)) A) := fun w' A h => gFree ua ma hBa.2.1 hBa.2.2 h
          have HBT : Hid (better B (some a) n = if m - u < ma - ua then some n else some a) := Lib.hid (by
            have e1 : frB B n = m - u := by unfold frB; rw [hnB]
            have e2 : frB B a = ma - ua := by unfold frB; rw [hpa]
            rw [← e1, ← e2]; unfold better; rw [hnB]; exact if_pos (by dsimp only; omega))
          generalize m - u = fn at cf HBT
          generalize ma - ua = fa at ca HBT
          clear hf hla
          by_cases hcmp : fn < fa
          · have HBS : Hid (better B (some a) n = some n) := Lib.hid (by rw [HBT.out, if_pos hcmp])
            go_wp2_with fail
            obtain ⟨I, Wf, hI, hW, hWs⟩ := worlds_of HZ
            have r0 : ∀ i j, (Wf i).cell? ⟨bp, j, none⟩ = #[Value.int .i64 u, .int .i64 m][j]? := fun i => (hW i).cells
            have r1 : ∀ i, (Wf i).cell? ⟨bp, 0, none⟩ = some (.int .i64 u) := fun i => r0 i 0
            have r2 : ∀ i, (Wf i).cell? ⟨bp, 1, none⟩ = some (.int .i64 m) := fun i => r0 i 1
            have r3 : ∀ i, (Wf i).cell? ⟨b, 0, none⟩ = some (.map (some q)) := fun i => (hW i).swap.cells 0
            have r4 : ∀ i, (Instr.lookup 114 (.map (some q)) (.int .i64 a) false).run Tryz.prog (Wf i) = .ok (.agg #[.int .i64 ua, .int .i64 ma]) (Wf i) := fun i => by
              have h := mapZ_lookup (P := Tryz.prog) (t := 114) (kt := 3) (et := 132) (hW i).p2 (by kernel_rfl) (by kernel_rfl) (hz _) false (a : Int)
              rw [bz_nat (by omega), hpa] at h
              exact h
            have CO := Lib.hid fun i => quietQ (cO (Wf i)) (hW i) hWs
            have CF := Lib.hid fun i => quietH (cf (Wf i) _ (hW i)) hWs
            have CA := Lib.hid fun i => quietH (ca (Wf i) _ (hW i)) hWs
            clear r0 cO cf ca hpa
            refine wp_region_holds hWs HZ (by kernel_rfl) (by kernel_rfl) ?_
            (repeat (go_big_quiet_step ((first | (go_at_call 88; exact CO.out _) | (go_at_call 89; exact CF.out _) | (go_at_call 89; exact CA.out _))))); refine wpQuiet_nil ?_; intro _ hw'; obtain ⟨nq, hw''⟩ := hw'; subst hw''
            go_wp2_with fail
            go_roundw
            case rel => exact ⟨k + 1, by omega, by go_num, by rw [HTK.out, HBS.out]; try rfl, by rw [HTK.out, HBS.out]; try rfl, (book_close (hW nq).drop).swap⟩
            case measure => simp [intOf]; omega
          · have HBS : Hid (better B (some a) n = some a) := Lib.hid (by rw [HBT.out, if_neg hcmp])
            have hcmp2 : fa ≤ fn := by omega
            go_wp2_with fail
            obtain ⟨I, Wf, hI, hW, hWs⟩ := worlds_of HZ
            have r0 : ∀ i j, (Wf i).cell? ⟨bp, j, none⟩ = #[Value.int .i64 u, .int .i64 m][j]? := fun i => (hW i).cells
            have r1 : ∀ i, (Wf i).cell? ⟨bp, 0, none⟩ = some (.int .i64 u) := fun i => r0 i 0
            have r2 : ∀ i, (Wf i).cell? ⟨bp, 1, none⟩ = some (.int .i64 m) := fun i => r0 i 1
            have r3 : ∀ i, (Wf i).cell? ⟨b, 0, none⟩ = some (.map (some q)) := fun i => (hW i).swap.cells 0
            have r4 : ∀ i, (Instr.lookup 114 (.map (some q)) (.int .i64 a) false).run Tryz.prog (Wf i) = .ok (.agg #[.int .i64 ua, .int .i64 ma]) (Wf i) := fun i => by
              have h := mapZ_lookup (P := Tryz.prog) (t := 114) (kt := 3) (et := 132) (hW i).p2 (by kernel_rfl) (by kernel_rfl) (hz _) false (a : Int)
              rw [bz_nat (by omega), hpa] at h
              exact h
            have CO := Lib.hid fun i => quietQ (cO (Wf i)) (hW i) hWs
            have CF := Lib.hid fun i => quietH (cf (Wf i) _ (hW i)) hWs
            have CA := Lib.hid fun i => quietH (ca (Wf i) _ (hW i)) hWs
            clear r0 cO cf ca hpa
            refine wp_region_holds hWs HZ (by kernel_rfl) (by kernel_rfl) ?_
            (repeat (go_big_quiet_step ((first | (go_at_call 88; exact CO.out _) | (go_at_call 89; exact CF.out _) | (go_at_call 89; exact CA.out _))))); refine wpQuiet_nil ?_; intro _ hw'; obtain ⟨nq, hw''⟩ := hw'; subst hw''
            go_wp2_with fail
            go_roundw
            case rel => exact ⟨k + 1, by omega, by go_num, by rw [HTK.out, HBS.out]; try rfl, by rw [HTK.out, HBS.out]; try rfl, (book_close (hW nq).drop).swap⟩
            case measure => simp [intOf]; omega
    · obtain rfl : k = L.length := by omega
      rw [List.take_length]
      go_wp2_with fail
      go_ret2
      exact ⟨by rw [HBE.out]; rfl, HX.drop⟩
end
end Go.Proofs.YtheblkofemobdaaGreat
