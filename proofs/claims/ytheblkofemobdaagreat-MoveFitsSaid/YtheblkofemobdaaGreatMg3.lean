import Derived.Test.YtheblkofemobdaaGreatMg2
import Derived.Deep.RegionLaw
/-
  The pool's laws, as laws of states: handles and objects, books. No program in sight.
-/
namespace Go.Proofs.YtheblkofemobdaaGreat
open Go.RowKit

/-- The sum over all handles in use. -/
def hsum (f : PlaceS → Nat) (t : TabS) : Nat := ((List.range 512).map fun k => if t.all (k + 1) = PlaceS.zero then 0 else f (t.all (k + 1))).sum
def hval (f : PlaceS → Nat) (p : PlaceS) : Nat := if p = PlaceS.zero then 0 else f p
theorem hsum_put (f : PlaceS → Nat) (t : TabS) {h : Nat} (h1 : 1 ≤ h) (h2 : h ≤ 512) (p : PlaceS) (m : Int) : hsum f ⟨(t.put h p).all, m⟩ + hval f (t.all h) = hsum f t + hval f p := by
  have := sum_upd 512 (fun k => hval f (t.all (k + 1))) (fun k => hval f ((t.put h p).all (k + 1))) (h - 1) (by omega) (fun j hj => by
    have : (t.put h p).all (j + 1) = t.all (j + 1) := by unfold TabS.put; dsimp only; rw [if_neg (by omega)]
    rw [this])
  have e1 : (t.put h p).all (h - 1 + 1) = p := by unfold TabS.put; dsimp only; rw [if_pos (by omega)]
  have e2 : h - 1 + 1 = h := by omega
  rw [e1, e2] at this
  exact this
def clsP (p : PlaceS) : Nat := (p.len.toNat - 1) / 64
structure ValidP (pgs : Pgs) (p : PlaceS) (n ob ln : Nat) (g : PgS) : Prop where
  eq : p = ⟨(n : Nat), (ob : Nat), (ln : Nat)⟩
  pg : pgs[n]? = some (some g)
  obl : ob < g.set.length
  bit : g.set.getD ob false = true
  l1 : 1 ≤ ln
  l2 : ln ≤ 4096
  cls : g.cls = (ln - 1) / 64
structure Ex where
  n : Nat
  k : Nat
  c : Nat
structure TabPg (t : TabS) (pgs : Pgs) (ex : Option Ex) : Prop where
  val : ∀ h : Nat, 1 ≤ h → h ≤ 512 → t.all h ≠ PlaceS.zero → ∃ n ob ln g, ValidP pgs (t.all h) n ob ln g
  dist : ∀ h h' : Nat, 1 ≤ h → h ≤ 512 → 1 ≤ h' → h' ≤ 512 → t.all h ≠ PlaceS.zero → t.all h' ≠ PlaceS.zero → (t.all h).page = (t.all h').page → (t.all h).obj = (t.all h').obj → h = h'
  many : t.many = hsum (fun _ => 1) t
  exv : ∀ q, ex = some q → (∃ g, pgs[q.n]? = some (some g) ∧ q.k < g.set.length ∧ g.set.getD q.k false = true ∧ g.cls = q.c) ∧ ∀ h : Nat, 1 ≤ h → h ≤ 512 → t.all h ≠ PlaceS.zero → ¬ ((t.all h).page = q.n ∧ (t.all h).obj = q.k)
  sum : ∀ f : Nat → Nat, wsum f pgs = hsum (fun p => f (clsP p)) t + (match ex with | none => 0 | some q => f q.c)
theorem clsP_nat (n ob ln : Nat) : clsP ⟨(n : Nat), (ob : Nat), (ln : Nat)⟩ = (ln - 1) / 64 := by unfold clsP; dsimp only; rw [Int.toNat_natCast]
theorem place_nz (n ob : Nat) {ln : Nat} (h : 1 ≤ ln) : (⟨(n : Nat), (ob : Nat), (ln : Nat)⟩ : PlaceS) ≠ PlaceS.zero := by
  intro e
  unfold PlaceS.zero at e
  injection e with _ _ e3
  omega
theorem put_all (t : TabS) (h k : Nat) (p : PlaceS) : (t.put h p).all k = if k = h then p else t.all k := rfl
section
variable {t : TabS} {pgs : Pgs} {n k ln h : Nat} {g g' : PgS} {ex : Option Ex}
theorem wsum_pgs (f : Nat → Nat) (hn : pgs[n]? = some (some g)) (hc : g'.cls = g.cls) (u v : Nat) (hu : cnt g'.set + u = cnt g.set + v) : wsum f (pgs.set n (some g')) + f g.cls * u = wsum f pgs + f g.cls * v := by
  have h1 := wsum_set f (y := some g') hn
  unfold pgUse at h1
  dsimp only at h1
  rw [hc] at h1
  have h2 : f g.cls * cnt g'.set + f g.cls * u = f g.cls * cnt g.set + f g.cls * v := by rw [← Nat.mul_add, ← Nat.mul_add, hu]
  omega
/-- A bit set, no handle yet. -/
theorem TabPg.take (T : TabPg t pgs none) (hn : pgs[n]? = some (some g)) (hk : k < g.set.length) (hx : g.set.getD k false = false) (hs : g'.set = g.set.set k true) (hc : g'.cls = g.cls) : TabPg t (pgs.set n (some g')) (some ⟨n, k, g.cls⟩) := by
  have hnl := (List.getElem?_eq_some_iff.1 hn).1
  refine ⟨fun h h1 h2 h3 => ?_, T.dist, T.many, fun q hq => ?_, fun f => ?_⟩
  · obtain ⟨m, ob, ln, q, V⟩ := T.val h h1 h2 h3
    by_cases hm : m = n
    · subst hm
      have := V.pg; rw [hn] at this; cases this
      exact ⟨m, ob, ln, g', V.eq, by rw [List.getElem?_set, if_pos rfl, if_pos hnl], by rw [hs, List.length_set]; exact V.obl, by rw [hs, getD_set hk]; split <;> first | rfl | exact V.bit, V.l1, V.l2, hc.trans V.cls⟩
    · exact ⟨m, ob, ln, q, V.eq, by rw [List.getElem?_set, if_neg (fun e => hm e.symm)]; exact V.pg, V.obl, V.bit, V.l1, V.l2, V.cls⟩
  · cases hq
    refine ⟨⟨g', by rw [List.getElem?_set, if_pos rfl, if_pos hnl], by rw [hs, List.length_set]; exact hk, by rw [hs, getD_set hk, if_pos rfl], hc⟩, fun h h1 h2 h3 => ?_⟩
    rintro ⟨e1, e2⟩
    obtain ⟨m, ob, ln, q, V⟩ := T.val h h1 h2 h3
    rw [V.eq] at e1 e2
    dsimp only at e1 e2
    obtain rfl : m = n := by omega
    obtain rfl : ob = k := by omega
    have := V.pg; rw [hn] at this; cases this
    rw [V.bit] at hx; cases hx
  · have h1 := cnt_set hk true
    rw [hx, if_neg (by decide), if_pos rfl, ← hs] at h1
    have h2 := wsum_pgs f hn hc 0 1 h1
    have h3 := T.sum f
    dsimp only at h3 ⊢
    omega
/-- A bit that no handle has, struck. -/
theorem TabPg.give {c : Nat} (T : TabPg t pgs (some ⟨n, k, c⟩)) (hn : pgs[n]? = some (some g)) (hs : g'.set = g.set.set k false) (hc : g'.cls = g.cls) : TabPg t (pgs.set n (some g')) none := by
  have hnl := (List.getElem?_eq_some_iff.1 hn).1
  obtain ⟨⟨g0, e0, hk, hx, hc0⟩, hno⟩ := T.exv _ rfl
  dsimp only at e0 hk hx hno hc0
  rw [hn] at e0; cases e0
  refine ⟨fun h h1 h2 h3 => ?_, T.dist, T.many, fun q hq => by (cases hq), fun f => ?_⟩
  · obtain ⟨m, ob, ln, q, V⟩ := T.val h h1 h2 h3
    by_cases hm : m = n
    · subst hm
      have := V.pg; rw [hn] at this; cases this
      have hob : ob ≠ k := by
        rintro rfl
        exact hno h h1 h2 h3 (by rw [V.eq]; exact ⟨rfl, rfl⟩)
      exact ⟨m, ob, ln, g', V.eq, by rw [List.getElem?_set, if_pos rfl, if_pos hnl], by rw [hs, List.length_set]; exact V.obl, by rw [hs, getD_set hk, if_neg hob]; exact V.bit, V.l1, V.l2, hc.trans V.cls⟩
    · exact ⟨m, ob, ln, q, V.eq, by rw [List.getElem?_set, if_neg (fun e => hm e.symm)]; exact V.pg, V.obl, V.bit, V.l1, V.l2, V.cls⟩
  · have h1 := cnt_set hk false
    rw [hx, if_pos rfl, if_neg (by decide), ← hs] at h1
    have h2 := wsum_pgs f hn hc 1 0 h1
    have h3 := T.sum f
    dsimp only at h3 ⊢
    rw [← hc0] at h3
    omega
/-- A bit told by a handle. -/
theorem TabPg.make {c : Nat} (T : TabPg t pgs (some ⟨n, k, c⟩)) (h1 : 1 ≤ h) (h2 : h ≤ 512) (hz : t.all h = PlaceS.zero) (l1 : 1 ≤ ln) (l2 : ln ≤ 4096) (hc : c = (ln - 1) / 64) : TabPg ⟨(t.put h ⟨(n : Nat), (k : Nat), (ln : Nat)⟩).all, t.many + 1⟩ pgs none := by
  obtain ⟨⟨g0, e0, hk, hx, hc0⟩, hno⟩ := T.exv _ rfl
  dsimp only at e0 hk hx hno hc0
  have hnz := place_nz n k l1
  refine ⟨fun h' a1 a2 a3 => ?_, fun h' h'' a1 a2 b1 b2 a3 b3 e1 e2 => ?_, ?_, fun q hq => by (cases hq), fun f => ?_⟩
  · dsimp only at a3 ⊢
    rw [put_all] at a3 ⊢
    by_cases e : h' = h
    · rw [if_pos e]
      exact ⟨n, k, ln, g0, rfl, e0, hk, hx, l1, l2, hc0.trans hc⟩
    · rw [if_neg e] at a3 ⊢
      exact T.val h' a1 a2 a3
  · dsimp only at a3 b3 e1 e2
    rw [put_all] at a3 e1 e2 b3
    rw [put_all] at e1 e2
    by_cases e : h' = h <;> by_cases e' : h'' = h
    · omega
    · rw [if_pos e, if_neg e'] at e1 e2
      rw [if_neg e'] at b3
      exact absurd ⟨e1.symm, e2.symm⟩ (hno h'' b1 b2 b3)
    · rw [if_neg e, if_pos e'] at e1 e2
      rw [if_neg e] at a3
      exact absurd ⟨e1, e2⟩ (hno h' a1 a2 a3)
    · rw [if_neg e, if_neg e'] at e1 e2
      rw [if_neg e] at a3
      rw [if_neg e'] at b3
      exact T.dist h' h'' a1 a2 b1 b2 a3 b3 e1 e2
  · have := hsum_put (fun _ => 1) t h1 h2 ⟨(n : Nat), (k : Nat), (ln : Nat)⟩ (t.many + 1)
    unfold hval at this
    rw [hz, if_pos rfl, if_neg hnz] at this
    dsimp only at this
    have hm := T.many
    dsimp only
    omega
  · have h3 := hsum_put (fun p => f (clsP p)) t h1 h2 ⟨(n : Nat), (k : Nat), (ln : Nat)⟩ (t.many + 1)
    unfold hval at h3
    rw [hz, if_pos rfl, if_neg hnz] at h3
    have h4 := T.sum f
    dsimp only at h3 h4 ⊢
    rw [clsP_nat] at h3
    rw [hc] at h4
    omega
/-- A handle taken from a bit. -/
theorem TabPg.drop (T : TabPg t pgs none) (h1 : 1 ≤ h) (h2 : h ≤ 512) (V : ValidP pgs (t.all h) n k ln g) : TabPg ⟨(t.put h PlaceS.zero).all, t.many - 1⟩ pgs (some ⟨n, k, (ln - 1) / 64⟩) := by
  have hnz : t.all h ≠ PlaceS.zero := by rw [V.eq]; exact place_nz n k V.l1
  refine ⟨fun h' a1 a2 a3 => ?_, fun h' h'' a1 a2 b1 b2 a3 b3 e1 e2 => ?_, ?_, fun q hq => ?_, fun f => ?_⟩
  · dsimp only at a3 ⊢
    rw [put_all] at a3 ⊢
    by_cases e : h' = h
    · rw [if_pos e] at a3; exact absurd rfl a3
    · rw [if_neg e] at a3 ⊢
      exact T.val h' a1 a2 a3
  · dsimp only at a3 b3 e1 e2
    rw [put_all] at a3 e1 e2 b3
    rw [put_all] at e1 e2
    by_cases e : h' = h
    · rw [if_pos e] at a3; exact absurd rfl a3
    · by_cases e' : h'' = h
      · rw [if_pos e'] at b3; exact absurd rfl b3
      · rw [if_neg e, if_neg e'] at e1 e2
        rw [if_neg e] at a3
        rw [if_neg e'] at b3
        exact T.dist h' h'' a1 a2 b1 b2 a3 b3 e1 e2
  · have := hsum_put (fun _ => 1) t h1 h2 PlaceS.zero (t.many - 1)
    unfold hval at this
    rw [if_neg hnz, if_pos rfl] at this
    dsimp only at this
    have hm := T.many
    dsimp only
    omega
  · cases hq
    refine ⟨⟨g, V.pg, V.obl, V.bit, V.cls⟩, fun h' a1 a2 a3 => ?_⟩
    dsimp only at a3 ⊢
    rw [put_all] at a3
    rintro ⟨e1, e2⟩
    rw [put_all] at e1 e2
    by_cases e : h' = h
    · rw [if_pos e] at a3; exact absurd rfl a3
    · rw [if_neg e] at e1 e2 a3
      exact e (T.dist h' h a1 a2 h1 h2 a3 hnz (by rw [e1, V.eq]) (by rw [e2, V.eq]))
  · have h3 := hsum_put (fun p => f (clsP p)) t h1 h2 PlaceS.zero (t.many - 1)
    unfold hval at h3
    rw [if_neg hnz, if_pos rfl] at h3
    have h4 := T.sum f
    dsimp only at h3 h4 ⊢
    rw [V.eq, clsP_nat] at h3
    omega
theorem TabPg.pages (T : TabPg t pgs none) {pgs' : Pgs} (hv : ∀ (m : Nat) (q : PgS) ob, pgs[m]? = some (some q) → q.set.getD ob false = true → pgs'[m]? = some (some q)) (hw : ∀ f, wsum f pgs' = wsum f pgs) : TabPg t pgs' none :=
  ⟨fun h h1 h2 h3 => by
    obtain ⟨m, ob, ln, q, V⟩ := T.val h h1 h2 h3
    exact ⟨m, ob, ln, q, V.eq, hv m q ob V.pg V.bit, V.obl, V.bit, V.l1, V.l2, V.cls⟩, T.dist, T.many, fun q hq => by (cases hq), fun f => by rw [hw]; exact T.sum f⟩
theorem cnt_pos {l : List Bool} {k : Nat} (h : l.getD k false = true) : 0 < cnt l := by
  unfold cnt
  have : true ∈ l := by
    by_cases hk : k < l.length
    · rw [← h]; exact getD_mem hk
    · rw [List.getD_eq_getElem?_getD, List.getElem?_eq_none (Nat.le_of_not_lt hk)] at h; cases h
  exact List.count_pos_iff.2 this
theorem TabPg.lay (T : TabPg t pgs none) (hn : pgs[n]? = some none) (h0 : cnt g.set = 0) : TabPg t (pgs.set n (some g)) none := by
  refine T.pages (fun m q ob hm _ => ?_) fun f => ?_
  · rw [List.getElem?_set, if_neg (by rintro rfl; rw [hn] at hm; cases hm)]; exact hm
  · have := wsum_set f (y := some g) hn
    unfold pgUse at this
    dsimp only at this
    rw [h0, Nat.mul_zero] at this
    exact this
theorem TabPg.close (T : TabPg t pgs none) (hn : pgs[n]? = some (some g)) (h0 : cnt g.set = 0) : TabPg t (pgs.set n none) none := by
  refine T.pages (fun m q ob hm hb => ?_) fun f => ?_
  · have hne : n ≠ m := by
      rintro rfl
      rw [hn] at hm
      cases hm
      have := cnt_pos hb
      omega
    rw [List.getElem?_set, if_neg hne]; exact hm
  · have := wsum_set f (y := none) hn
    unfold pgUse at this
    dsimp only at this
    rw [h0, Nat.mul_zero] at this
    exact this
theorem wsum_app (f : Nat → Nat) (pgs : Pgs) : wsum f (pgs ++ [none]) = wsum f pgs := by simp [wsum, pgUse]
theorem TabPg.roomy (T : TabPg t pgs none) : TabPg t (roomy pgs) none := by
  unfold Go.Proofs.YtheblkofemobdaaGreat.roomy
  split
  · exact T
  · refine T.pages (fun m q ob hm _ => ?_) fun f => wsum_app f pgs
    rw [List.getElem?_append_left (List.getElem?_eq_some_iff.1 hm).1]; exact hm
end

/-- What the books are. -/
def bkOf (pgs : Pgs) (c : Nat) : Bk := fun n => match pgs[n]? with
  | some (some g) => if g.cls = c then some (cnt g.set, g.set.length) else none
  | _ => none
def BksOk (bks : Nat → Bk) (pgs : Pgs) : Prop := ∀ c, c < 64 → bks c = bkOf pgs c
/-- The books, but for one number in one of them. -/
def BksBut (bks : Nat → Bk) (pgs : Pgs) (n c0 : Nat) : Prop := ∀ c, c < 64 → ∀ m, (m = n ∧ c = c0) ∨ bks c m = bkOf pgs c m
section
variable {bks : Nat → Bk} {pgs : Pgs} {n : Nat} {g g' : PgS}
theorem bkOf_ne {m : Nat} {x : Option PgS} (c : Nat) (h : m ≠ n) : bkOf (pgs.set n x) c m = bkOf pgs c m := by
  unfold bkOf
  rw [List.getElem?_set, if_neg (fun e => h e.symm)]
theorem bkOf_other {c m : Nat} (hn : pgs[n]? = some (some g)) (hg : g'.cls = g.cls) (h : c ≠ g.cls) : bkOf (pgs.set n (some g')) c m = bkOf pgs c m := by
  by_cases e : m = n
  · subst e
    unfold bkOf
    rw [List.getElem?_set, if_pos rfl, if_pos (List.getElem?_eq_some_iff.1 hn).1, hn]
    dsimp only
    rw [hg, if_neg (fun e => h e.symm), if_neg (fun e => h e.symm)]
  · exact bkOf_ne c e
theorem BksOk.step (h : BksOk bks pgs) (hn : pgs[n]? = some (some g)) (hg : g'.cls = g.cls) : BksBut bks (pgs.set n (some g')) n g.cls := by
  intro c hc m
  by_cases h1 : c = g.cls
  · by_cases h2 : m = n
    · exact .inl ⟨h2, h1⟩
    · rw [bkOf_ne c h2, h c hc]; exact .inr rfl
  · rw [bkOf_other hn hg h1, h c hc]; exact .inr rfl
theorem BksOk.lay (h : BksOk bks pgs) (hn : pgs[n]? = some none) : BksBut bks (pgs.set n (some g)) n g.cls := by
  intro c hc m
  by_cases h2 : m = n
  · by_cases h1 : c = g.cls
    · exact .inl ⟨h2, h1⟩
    · subst h2
      right
      rw [h c hc]
      unfold bkOf
      rw [List.getElem?_set, if_pos rfl, if_pos (List.getElem?_eq_some_iff.1 hn).1, hn]
      dsimp only
      rw [if_neg (fun e => h1 e.symm)]
  · rw [bkOf_ne c h2, h c hc]; exact .inr rfl
theorem BksBut.again {c0 : Nat} (h : BksBut bks pgs n c0) (hn : pgs[n]? = some (some g)) (hg : g.cls = c0) (hg' : g'.cls = g.cls) : BksBut bks (pgs.set n (some g')) n c0 := by
  intro c hc m
  by_cases h1 : c = g.cls
  · by_cases h2 : m = n
    · exact .inl ⟨h2, h1.trans hg⟩
    · rw [bkOf_ne c h2]; exact h c hc m
  · rw [bkOf_other hn hg' h1]; exact h c hc m
theorem BksBut.put {c0 : Nat} (h : BksBut bks pgs n c0) (hn : pgs[n]? = some (some g)) (hg : g.cls = c0) : BksOk (updB bks c0 (bput (bks c0) n (cnt g.set, g.set.length))) pgs := by
  intro c hc
  funext m
  unfold updB
  by_cases h1 : c = c0
  · rw [if_pos h1]
    unfold bput
    by_cases h2 : m = n
    · subst h2
      rw [if_pos rfl]
      unfold bkOf
      rw [hn]
      dsimp only
      rw [if_pos (hg.trans h1.symm)]
    · rw [if_neg h2]
      rcases h c hc m with h3 | h3
      · exact absurd h3.1 h2
      · rw [← h1]; exact h3
  · rw [if_neg h1]
    rcases h c hc m with h3 | h3
    · exact absurd h3.2 h1
    · exact h3
theorem BksBut.del {c0 : Nat} (h : BksBut bks pgs n c0) (hn : pgs[n]? = some (some g)) (hg : g.cls = c0) : BksOk (updB bks c0 (bdel (bks c0) n)) (pgs.set n none) := by
  intro c hc
  funext m
  have key : m = n → bkOf (pgs.set n none) c m = none := by
    rintro rfl
    unfold bkOf
    rw [List.getElem?_set, if_pos rfl, if_pos (List.getElem?_eq_some_iff.1 hn).1]
  unfold updB
  by_cases h1 : c = c0
  · rw [if_pos h1]
    unfold bdel
    by_cases h2 : m = n
    · rw [if_pos h2, key h2]
    · rw [if_neg h2, bkOf_ne c h2]
      rcases h c hc m with h3 | h3
      · exact absurd h3.1 h2
      · rw [← h1]; exact h3
  · rw [if_neg h1]
    by_cases h2 : m = n
    · rw [key h2]
      rcases h c hc m with h3 | h3
      · exact absurd h3.2 h1
      · rw [h3]
        unfold bkOf
        rw [h2, hn]
        dsimp only
        rw [if_neg (fun e => h1 (e.symm.trans hg))]
    · rw [bkOf_ne c h2]
      rcases h c hc m with h3 | h3
      · exact absurd h3.2 h1
      · exact h3
theorem bkOf_roomy (c : Nat) : bkOf (roomy pgs) c = bkOf pgs c := by
  funext m
  unfold roomy
  split
  · rfl
  · unfold bkOf
    rcases Nat.lt_or_ge m pgs.length with hl | hl
    · rw [List.getElem?_append_left hl]
    · rw [List.getElem?_append_right hl, List.getElem?_eq_none (l := pgs) hl]
      cases m - pgs.length <;> rfl
theorem bkOf_some {c m : Nat} {p : Nat × Nat} (h : bkOf pgs c m = some p) : ∃ g, pgs[m]? = some (some g) ∧ g.cls = c ∧ p = (cnt g.set, g.set.length) := by
  unfold bkOf at h
  split at h
  · next g hg =>
    split at h
    · next hc => cases h; exact ⟨g, hg, hc, rfl⟩
    · cases h
  · cases h
end
end Go.Proofs.YtheblkofemobdaaGreat

/-
  The pool's laws, as laws of states: the whole invariant; Alloc. No program in sight.
-/
namespace Go.Proofs.YtheblkofemobdaaGreat
open Go.RowKit

structure PoolOk (M : RamS) (S : PoolS) : Prop where
  pgs : PgsOk M S.pgs
  tab : TabPg S.tab S.pgs none
  bks : BksOk S.bks S.pgs
  pos : ∀ (n : Nat) (g : PgS), S.pgs[n]? = some (some g) → 0 < cnt g.set
  len : S.pgs.length ≤ 512
/-- A handle's bytes. -/
def gotP (M : RamS) (pgs : Pgs) (p : PlaceS) : Option (List UInt8) := match pgs[p.page.toNat]? with
  | some (some g) => some (obj M g p.obj.toNat p.len.toNat)
  | _ => none
def got (M : RamS) (S : PoolS) (x : Int) : Option (List UInt8) := if S.tab.inb x then gotP M S.pgs (S.tab.all x.toNat) else none
def PoolS.into (M : RamS) (S : PoolS) (n : Nat) (d : List UInt8) : (Int × Int) × RamS × PoolS := match S.pgs[n]? with
  | some (some g) => ((S.tab.make ⟨n, (g.first - 1 : Nat), d.length⟩).1, (putPg M g (g.first - 1) d).1, ⟨(S.tab.make ⟨n, (g.first - 1 : Nat), d.length⟩).2, S.pgs.set n (some (putPg M g (g.first - 1) d).2), updB S.bks g.cls (bput (S.bks g.cls) n (cnt (putPg M g (g.first - 1) d).2.set, (putPg M g (g.first - 1) d).2.set.length))⟩)
  | _ => ((0, 0), M, S)
def PoolS.fresh (M : RamS) (S : PoolS) (c : Nat) : RamS × PoolS := ((mkPg M c).1, ⟨S.tab, (roomy S.pgs).set (holeOf S.pgs) (some (mkPg M c).2), S.bks⟩)
def PoolS.alloc (M : RamS) (S : PoolS) (d : List UInt8) : (Int × Int) × RamS × PoolS :=
  if d.length < 1 ∨ 4096 < d.length then ((0, 1), M, S)
  else if 512 ≤ S.tab.many then ((0, 11), M, S)
  else match bestB (S.bks ((d.length - 1) / 64)) [] with
    | some n => S.into M n d
    | none => if M.fr.free.length < cFrames ((d.length - 1) / 64) then ((0, 11), M, S) else (S.fresh M ((d.length - 1) / 64)).2.into (S.fresh M ((d.length - 1) / 64)).1 (holeOf S.pgs) d
/-- What stands before an object is put. -/
structure Room (M : RamS) (S : PoolS) (n : Nat) (g : PgS) : Prop where
  pgs : PgsOk M S.pgs
  tab : TabPg S.tab S.pgs none
  bks : BksBut S.bks S.pgs n g.cls
  pos : ∀ (m : Nat) (q : PgS), m ≠ n → S.pgs[m]? = some (some q) → 0 < cnt q.set
  len : S.pgs.length ≤ 512
  pg : S.pgs[n]? = some (some g)
  inv : ∃ k L, PgInv M g (k :: L)
structure Alloced (M : RamS) (S : PoolS) (d : List UInt8) (n h : Nat) (q : (Int × Int) × RamS × PoolS) : Prop where
  res : q.1 = ((h : Int), 0)
  h1 : 1 ≤ h
  h2 : h ≤ 512
  hz : S.tab.all h = PlaceS.zero
  place : ∃ k : Nat, q.2.2.tab.all h = ⟨(n : Nat), (k : Nat), (d.length : Nat)⟩
  tab : ∀ h', h' ≠ h → q.2.2.tab.all h' = S.tab.all h'
  many : q.2.2.tab.many = S.tab.many + 1
  ok : PoolOk q.2.1 q.2.2
  got : ∀ x, got q.2.1 q.2.2 x = if x = (h : Int) then some d else got M S x
  keep : Keep M q.2.1
section
variable {M M' : RamS} {S : PoolS} {n h : Nat} {g : PgS} {d : List UInt8}
theorem sum_ones (n : Nat) : ((List.range n).map fun _ => 1).sum = n := by
  induction n with
  | zero => rfl
  | succ n ih => rw [List.range_succ, List.map_append, List.sum_append, ih]; rfl
theorem hsum_full {t : TabS} (h : ∀ h, 1 ≤ h → h ≤ 512 → t.all h ≠ PlaceS.zero) : hsum (fun _ => 1) t = 512 := by
  unfold hsum
  have : (List.range 512).map (fun k => if t.all (k + 1) = PlaceS.zero then 0 else 1) = (List.range 512).map fun _ => 1 :=
    List.map_congr_left fun k hk => if_neg (h (k + 1) (by omega) (by have := List.mem_range.1 hk; omega))
  rw [this]
  exact sum_ones 512
theorem hsum_le (t : TabS) : hsum (fun _ => 1) t ≤ 512 := by
  unfold hsum
  have : ∀ n, ((List.range n).map (fun k => if t.all (k + 1) = PlaceS.zero then 0 else 1)).sum ≤ n := by
    intro n
    induction n with
    | zero => exact Nat.le_refl _
    | succ n ih =>
      rw [List.range_succ, List.map_append, List.sum_append]
      simp only [List.map_cons, List.map_nil, List.sum_cons, List.sum_nil]
      split <;> omega
  exact this 512
theorem TabPg.bd {t : TabS} {pgs : Pgs} {ex : Option Ex} (T : TabPg t pgs ex) : 0 ≤ t.many ∧ t.many ≤ 512 := by
  have := T.many
  have := hsum_le t
  omega
theorem free_ex {t : TabS} {pgs : Pgs} {ex : Option Ex} (T : TabPg t pgs ex) (hm : t.many < 512) : ∃ h, t.free = some h := by
  cases hf : t.free with
  | some h => exact ⟨h, rfl⟩
  | none =>
    have := hsum_full (TabS.free_none hf)
    have := T.many
    omega
theorem gotP_eq {pgs : Pgs} {p : PlaceS} {ob ln : Nat} (V : ValidP pgs p n ob ln g) : gotP M pgs p = some (obj M g ob ln) := by
  unfold gotP
  rw [V.eq]
  dsimp only
  rw [Int.toNat_natCast, Int.toNat_natCast, Int.toNat_natCast, V.pg]
theorem obj_pg (g' : PgS) (hr : g'.row = g.row) (hc : g'.cls = g.cls) (k m : Nat) : obj M g' k m = obj M g k m := by unfold obj; rw [hr, hc]
theorem csz_of {c ln : Nat} (h : c = (ln - 1) / 64) : ln ≤ csz c := by unfold csz; omega
theorem inb_nat {t : TabS} (h1 : 1 ≤ h) (h2 : h ≤ 512) (hz : t.all h ≠ PlaceS.zero) : t.inb (h : Int) = true := by
  unfold TabS.inb
  rw [Int.toNat_natCast]
  exact decide_eq_true ⟨by omega, by omega, hz⟩
/-- What is got does not change where neither a handle's place nor its object does. -/
theorem got_keep {t : TabS} {pgs pgs' : Pgs} {bks bks' : Nat → Bk} {ex : Option Ex} (T : TabPg t pgs ex) (hk : ∀ (m ob ln : Nat) (q : PgS) h, 1 ≤ h → h ≤ 512 → ValidP pgs (t.all h) m ob ln q → ∃ q', pgs'[m]? = some (some q') ∧ obj M' q' ob ln = obj M q ob ln) (x : Int) : got M' ⟨t, pgs', bks'⟩ x = got M ⟨t, pgs, bks⟩ x := by
  unfold got
  dsimp only
  cases hi : t.inb x with
  | false => rfl
  | true =>
    obtain ⟨h1, h2, h3⟩ := TabS.inb_yes hi
    obtain ⟨m, ob, ln, q, V⟩ := T.val x.toNat (by omega) (by omega) h3
    obtain ⟨q', hq', ho⟩ := hk m ob ln q x.toNat (by omega) (by omega) V
    rw [if_pos rfl, if_pos rfl, gotP_eq V]
    unfold gotP
    rw [V.eq]
    dsimp only
    rw [Int.toNat_natCast, Int.toNat_natCast, Int.toNat_natCast, hq']
    dsimp only
    rw [ho]
theorem got_tab {t t' : TabS} {pgs : Pgs} {bks bks' : Nat → Bk} (x : Int) (h : t'.all x.toNat = t.all x.toNat) : got M ⟨t', pgs, bks'⟩ x = got M ⟨t, pgs, bks⟩ x := by
  unfold got TabS.inb
  dsimp only
  rw [h]
theorem set_at {pgs : Pgs} (hn : pgs[n]? = some (some g)) (x : Option PgS) : (pgs.set n x)[n]? = some x := by
  rw [List.getElem?_set, if_pos rfl, if_pos (List.getElem?_eq_some_iff.1 hn).1]
set_option maxHeartbeats 400000 in
theorem into_law (Rm : Room M S n g) (hc : g.cls = (d.length - 1) / 64) (h1 : 1 ≤ d.length) (h2 : d.length ≤ 4096) (hm : S.tab.many < 512) : ∃ h, Alloced M S d n h (S.into M n d) ∧ S.tab.make ⟨n, (g.first - 1 : Nat), d.length⟩ = (((h : Int), (0 : Int)), (⟨(S.tab.put h ⟨(n : Nat), (g.first - 1 : Nat), (d.length : Nat)⟩).all, S.tab.many + 1⟩ : TabS)) := by
  obtain ⟨k, L, hI⟩ := Rm.inv
  obtain ⟨hf, hk, hx⟩ := hI.takeHead
  have hk1 : g.first - 1 = k := by omega
  have hd := csz_of hc
  have hs := hI.ok.set256
  have hnl := (List.getElem?_eq_some_iff.1 Rm.pg).1
  have hlen := Rm.len
  obtain ⟨h, hfree⟩ := free_ex Rm.tab hm
  obtain ⟨a1, a2, a3, a4⟩ := TabS.free_some hfree
  have hmk : S.tab.make ⟨n, k, d.length⟩ = (((h : Int), (0 : Int)), (⟨(S.tab.put h ⟨(n : Nat), (k : Nat), (d.length : Nat)⟩).all, S.tab.many + 1⟩ : TabS)) := by
    unfold TabS.make
    rw [if_pos (by unfold PlaceS.ok; dsimp only; omega), hfree]
  refine ⟨h, ?_, by rw [hk1]; exact hmk⟩
  unfold PoolS.into
  rw [Rm.pg]
  dsimp only
  rw [hk1, hmk]
  obtain ⟨p1, p2, p3⟩ := put_ram Rm.pgs.ram hI hd
  have pI := put_inv Rm.pgs.ram hI hd
  have hrow : (putPg M g k d).2.row = g.row := rfl
  have hcls : (putPg M g k d).2.cls = g.cls := rfl
  have hset : (putPg M g k d).2.set = g.set.set k true := rfl
  have hps := put_same Rm.pgs.ram hI hd
  have hpo := fun j m => put_other (M := M) (g := g) (j := j) (m := m) Rm.pgs.ram hI hd
  have hcn := cnt_set hk true
  rw [hx, if_neg (by decide), if_pos rfl, ← hset] at hcn
  generalize putPg M g k d = P at *
  obtain ⟨M1, g1⟩ := P
  dsimp only at *
  have P1 := Rm.pgs.step Rm.pg p1 p2 hrow pI p3
  have T1 := Rm.tab.take Rm.pg hk hx hset hcls
  have T2 := T1.make a1 a2 a3 h1 h2 hc
  have B2 := (Rm.bks.again Rm.pg rfl hcls).put (set_at Rm.pg _) hcls
  have hex : ∀ h', 1 ≤ h' → h' ≤ 512 → S.tab.all h' ≠ PlaceS.zero → ¬ ((S.tab.all h').page = n ∧ (S.tab.all h').obj = k) := (T1.exv _ rfl).2
  refine ⟨rfl, a1, a2, a3, ⟨k, ?_⟩, fun h' hh => ?_, rfl, ⟨P1, T2, B2, fun m q hq => ?_, by dsimp only; rw [List.length_set]; exact hlen⟩, fun x => ?_, keep_of_fr p2 hI.ok.own p3⟩
  · dsimp only; rw [put_all, if_pos rfl]
  · dsimp only; rw [put_all, if_neg hh]
  · dsimp only at hq
    rcases get_set Rm.pg hq with ⟨rfl, e⟩ | ⟨hne, e⟩
    · cases e; omega
    · exact Rm.pos m q hne e
  · by_cases hxh : x = (h : Int)
    · rw [if_pos hxh]
      subst hxh
      have V : ValidP (S.pgs.set n (some g1)) ⟨(n : Nat), (k : Nat), (d.length : Nat)⟩ n k d.length g1 :=
        ⟨rfl, set_at Rm.pg _, by rw [hset, List.length_set]; exact hk, by rw [hset, getD_set hk, if_pos rfl], h1, h2, hcls.trans hc⟩
      unfold got
      dsimp only
      rw [if_pos (inb_nat (t := ⟨(S.tab.put h ⟨(n : Nat), (k : Nat), (d.length : Nat)⟩).all, S.tab.many + 1⟩) a1 a2 (by dsimp only; rw [put_all, if_pos rfl]; exact place_nz n k h1)), Int.toNat_natCast, put_all, if_pos rfl, gotP_eq V, hps]
    · rw [if_neg hxh]
      have e1 : got M1 ⟨S.tab, S.pgs.set n (some g1), S.bks⟩ x = got M S x := got_keep (bks := S.bks) Rm.tab (fun m ob ln q h' b1 b2 V => by
        by_cases hm : m = n
        · subst hm
          have := V.pg; rw [Rm.pg] at this; cases this
          have hob : ob ≠ k := by
            rintro rfl
            refine hex h' b1 b2 (by rw [V.eq]; exact place_nz _ _ V.l1) ⟨by rw [V.eq], by rw [V.eq]⟩
          exact ⟨g1, set_at Rm.pg _, hpo ob ln hob (csz_of V.cls)⟩
        · refine ⟨q, by rw [List.getElem?_set, if_neg (fun e => hm e.symm)]; exact V.pg, ?_⟩
          exact obj_congr (fun r hr => p3 r (Rm.pgs.apart m n q g hm V.pg Rm.pg r hr)) ob ln) x
      rw [← e1]
      by_cases hn0 : x.toNat = h
      · -- a number that is no handle's
        have hneg : x < 1 := by omega
        unfold got
        have f1 : ∀ t : TabS, t.inb x = false := fun t => by
          unfold TabS.inb
          exact decide_eq_false fun hh => by omega
        rw [f1, f1]
        rfl
      · exact got_tab x (by dsimp only; rw [put_all, if_neg hn0])
theorem Alloced.from {M0 : RamS} {S0 : PoolS} {q : (Int × Int) × RamS × PoolS} (A : Alloced M S d n h q) (ht : S.tab = S0.tab) (hg : ∀ x, Go.Proofs.YtheblkofemobdaaGreat.got M S x = Go.Proofs.YtheblkofemobdaaGreat.got M0 S0 x) (hk : Keep M0 M) : Alloced M0 S0 d n h q :=
  ⟨A.res, A.h1, A.h2, by rw [← ht]; exact A.hz, A.place, fun h' hh => by rw [← ht]; exact A.tab h' hh, by rw [← ht]; exact A.many, A.ok, fun x => by rw [A.got, hg], hk.trans A.keep⟩
theorem bestB_at {pgs : Pgs} {B : Bk} {c : Nat} {bs : List Int} (hB : B = bkOf pgs c) (hl : pgs.length ≤ 512) (h : bestB B bs = some n) : ∃ g, pgs[n]? = some (some g) ∧ g.cls = c ∧ cnt g.set < g.set.length ∧ n < 512 ∧ (n : Int) ∉ bs := by
  obtain ⟨h1, p, h2, h3⟩ := bestL_open B h
  subst hB
  obtain ⟨g, hg, hc, rfl⟩ := bkOf_some h2
  have h4 := List.mem_filter.1 h1
  have := (List.getElem?_eq_some_iff.1 hg).1
  simp at h4
  exact ⟨g, hg, hc, h3, by omega, h4.2.2⟩
theorem inv_room {L : List Nat} (hI : PgInv M g L) (h : cnt g.set < g.set.length) : ∃ k L', PgInv M g (k :: L') := by
  cases L with
  | nil => have := hI.count; simp at this; omega
  | cons k L => exact ⟨k, L, hI⟩
theorem fsum_len : ∀ (l : Pgs), (∀ (n : Nat) (g : PgS), l[n]? = some (some g) → 0 < cnt g.set) → (∀ x ∈ l, x ≠ none) → l.length ≤ wsum (fun _ => 1) l
  | [], _, _ => Nat.le_refl _
  | none :: l, _, h => absurd rfl (h none (by simp))
  | some g :: l, hp, h => by
    have h1 := hp 0 g rfl
    have h2 := fsum_len l (fun n q hq => hp (n + 1) q (by simpa using hq)) fun x hx => h x (by simp [hx])
    unfold wsum at h2 ⊢
    simp only [List.map_cons, List.sum_cons, List.length_cons, pgUse, Nat.one_mul] at h2 ⊢
    omega
theorem PoolOk.room_old (h : PoolOk M S) {c : Nat} (hc : c < 64) (hb : bestB (S.bks c) [] = some n) : ∃ g, Room M S n g ∧ g.cls = c ∧ n < 512 := by
  obtain ⟨g, hg, hgc, h1, h2, _⟩ := bestB_at (h.bks c hc) h.len hb
  obtain ⟨L, hI⟩ := h.pgs.pg n g hg
  exact ⟨g, ⟨h.pgs, h.tab, fun c' hc' m => .inr (by rw [h.bks c' hc']), fun m q _ hq => h.pos m q hq, h.len, hg, inv_room hI h1⟩, hgc, h2⟩
theorem roomy_len (h : PoolOk M S) (hm : S.tab.many < 512) : (roomy S.pgs).length ≤ 512 ∧ holeOf S.pgs ≤ 511 := by
  have hle := hole_le S.pgs
  have hlen := h.len
  by_cases hlt : holeOf S.pgs < S.pgs.length
  · unfold roomy; rw [if_pos hlt]; omega
  · have hall : ∀ x ∈ S.pgs, x ≠ none := by
      intro x hx e
      subst e
      have : holeOf S.pgs < S.pgs.length := List.findIdx_lt_length_of_exists ⟨none, hx, rfl⟩
      omega
    have h1 := fsum_len S.pgs h.pos hall
    have h2 := h.tab.sum fun _ => 1
    have h3 := h.tab.many
    dsimp only at h2
    unfold roomy
    rw [if_neg hlt, List.length_append, List.length_singleton]
    omega
theorem PoolOk.room_new (h : PoolOk M S) {c : Nat} (hc : c < 64) (hm : S.tab.many < 512) (hlt : cFrames c ≤ M.fr.free.length) :
    ∃ g, Room (S.fresh M c).1 (S.fresh M c).2 (holeOf S.pgs) g ∧ g.cls = c ∧ (∀ x, got (S.fresh M c).1 (S.fresh M c).2 x = got M S x) ∧ Keep M (S.fresh M c).1 := by
  have mk := mk_made h.pgs.ram h.pgs.fr hc hlt
  obtain ⟨r1, r2⟩ := roomy_hole S.pgs
  obtain ⟨r3, r4⟩ := roomy_len h hm
  have hPR := h.pgs.roomy
  have hTR := h.tab.roomy
  have hBR : BksOk S.bks (roomy S.pgs) := fun c' hc' => by rw [h.bks c' hc', bkOf_roomy]
  have hpos : ∀ (m : Nat) (q : PgS), (roomy S.pgs)[m]? = some (some q) → 0 < cnt q.set := by
    intro m q hq
    unfold roomy at hq
    split at hq
    · exact h.pos m q hq
    · rcases Nat.lt_or_ge m S.pgs.length with hl | hl
      · rw [List.getElem?_append_left hl] at hq; exact h.pos m q hq
      · rw [List.getElem?_append_right hl] at hq
        cases hk : m - S.pgs.length with
        | zero => rw [hk] at hq; cases hq
        | succ k => rw [hk] at hq; cases hq
  have hgr : ∀ x, got M ⟨S.tab, roomy S.pgs, S.bks⟩ x = got M S x := fun x => got_keep (bks := S.bks) h.tab (fun m ob ln q h' b1 b2 V => by
    refine ⟨q, ?_, rfl⟩
    unfold roomy
    split
    · exact V.pg
    · rw [List.getElem?_append_left (List.getElem?_eq_some_iff.1 V.pg).1]; exact V.pg) x
  unfold PoolS.fresh
  have hcnt : cnt (mkPg M c).2.set = 0 := by rw [mk.set]; exact cnt_zero _
  have hN := (cObjects_bd hc).1
  have hcl := mk.cls
  have hsl : (mkPg M c).2.set.length = cObjects c := by rw [mk.set, List.length_replicate]
  have hInv := mk.inv
  generalize mkPg M c = P at *
  obtain ⟨M1, g⟩ := P
  dsimp only at *
  refine ⟨g, ⟨hPR.lay mk r1, hTR.lay r1 hcnt, hBR.lay r1, fun m q hne hq => ?_, by dsimp only; rw [List.length_set]; exact r3, ?_, inv_room hInv (by omega)⟩, hcl, fun x => ?_, made_keep mk⟩
  · dsimp only at hq
    rcases get_set r1 hq with ⟨rfl, e⟩ | ⟨_, e⟩
    · exact absurd rfl hne
    · exact hpos m q e
  · dsimp only
    rw [List.getElem?_set, if_pos rfl, if_pos (List.getElem?_eq_some_iff.1 r1).1]
  · rw [← hgr x]
    refine got_keep hTR (fun m ob ln q h' b1 b2 V => ?_) x
    have hne : holeOf S.pgs ≠ m := by
      intro e
      have := V.pg
      rw [← e, r1] at this
      cases this
    refine ⟨q, by rw [List.getElem?_set, if_neg hne]; exact V.pg, ?_⟩
    obtain ⟨L', hI'⟩ := hPR.pg m q V.pg
    exact obj_congr (fun r hr => mk.frame r fun hp => by
      have h1 := hI'.ok.own r hr
      have h2 := mk.was r hp
      omega) ob ln
/-- How many frames an object needs. -/
def needP (S : PoolS) (n : Nat) : Nat := if (bestB (S.bks ((n - 1) / 64)) []).isSome then 0 else cFrames ((n - 1) / 64)
/-- The zspage that an object goes to. -/
def whereP (S : PoolS) (n : Nat) : Nat := (bestB (S.bks ((n - 1) / 64)) []).getD (holeOf S.pgs)
theorem alloc_bad (h : d.length < 1 ∨ 4096 < d.length) : S.alloc M d = ((0, 1), M, S) := by unfold PoolS.alloc; rw [if_pos h]
theorem alloc_no (h1 : 1 ≤ d.length) (h2 : d.length ≤ 4096) (h : 512 ≤ S.tab.many ∨ M.fr.free.length < needP S d.length) : S.alloc M d = ((0, 11), M, S) := by
  unfold PoolS.alloc
  rw [if_neg (by omega)]
  by_cases hm : 512 ≤ S.tab.many
  · rw [if_pos hm]
  · rw [if_neg hm]
    have h3 : M.fr.free.length < needP S d.length := by omega
    unfold needP at h3
    cases hb : bestB (S.bks ((d.length - 1) / 64)) [] with
    | some n => rw [hb] at h3; simp at h3
    | none => rw [hb] at h3; simp at h3; dsimp only; rw [if_pos h3]
theorem alloc_law (h : PoolOk M S) (h1 : 1 ≤ d.length) (h2 : d.length ≤ 4096) (hm : S.tab.many < 512) (hf : needP S d.length ≤ M.fr.free.length) : ∃ x, Alloced M S d (whereP S d.length) x (S.alloc M d) := by
  have hc : (d.length - 1) / 64 < 64 := by omega
  unfold PoolS.alloc
  rw [if_neg (by omega), if_neg (by omega)]
  unfold needP at hf
  unfold whereP
  cases hb : bestB (S.bks ((d.length - 1) / 64)) [] with
  | some n =>
    dsimp only
    obtain ⟨g, Rm, hg, _⟩ := h.room_old hc hb
    obtain ⟨x, A, _⟩ := into_law Rm hg h1 h2 hm
    exact ⟨x, A⟩
  | none =>
    rw [hb] at hf
    simp at hf
    dsimp only
    rw [if_neg (by omega)]
    obtain ⟨g, Rm, hg, hgot, hk⟩ := h.room_new hc hm hf
    obtain ⟨x, A, _⟩ := into_law Rm hg h1 h2 hm
    exact ⟨x, A.from rfl hgot hk⟩
end
end Go.Proofs.YtheblkofemobdaaGreat

/-
  The pool's contracts as a whole: Alloc, Free, Shift, with their laws.
-/
namespace Go.Proofs.YtheblkofemobdaaGreat
open Go.RowKit

def noteF (M : RamS) (S : PoolS) (n : Nat) : RamS × PoolS := match S.pgs[n]? with
  | some (some g) => if 0 < cnt g.set then (M, ⟨S.tab, S.pgs, updB S.bks g.cls (bput (S.bks g.cls) n (cnt g.set, g.set.length))⟩) else (M.giveL g.row, ⟨S.tab, S.pgs.set n none, updB S.bks g.cls (bdel (S.bks g.cls) n)⟩)
  | _ => (M, S)
def freeAt (M : RamS) (S : PoolS) (x : Int) (n ob : Nat) : RamS × PoolS := match S.pgs[n]? with
  | some (some g) => noteF (givePg M g ob).1 ⟨(S.tab.drop x).2, S.pgs.set n (some (givePg M g ob).2), S.bks⟩ n
  | _ => (M, S)
def PoolS.free1 (M : RamS) (S : PoolS) (x : Int) : Bool × RamS × PoolS :=
  if S.tab.inb x then (true, freeAt M S x (S.tab.all x.toNat).page.toNat (S.tab.all x.toNat).obj.toNat) else (false, M, S)
/-- Where Shift would move an object to. -/
def shiftTo (S : PoolS) (x : Int) : Option Nat := bestB (S.bks (clsP (S.tab.all x.toNat))) [(S.tab.all x.toNat).page]
def shiftAt (M : RamS) (S : PoolS) (x : Int) (n ob ln m : Nat) : RamS × PoolS := match S.pgs[n]?, S.pgs[m]? with
  | some (some g), some (some g2) => noteF (shiftS M S g g2 x n ob ln m (g2.first - 1)).1 (shiftS M S g g2 x n ob ln m (g2.first - 1)).2 n
  | _, _ => (M, S)
def PoolS.shift1 (M : RamS) (S : PoolS) (x : Int) : Bool × RamS × PoolS :=
  if S.tab.inb x then match shiftTo S x with
    | some m => (true, shiftAt M S x (S.tab.all x.toNat).page.toNat (S.tab.all x.toNat).obj.toNat (S.tab.all x.toNat).len.toNat m)
    | none => (false, M, S)
  else (false, M, S)
structure Freed (M : RamS) (S : PoolS) (x : Int) (q : RamS × PoolS) : Prop where
  ok : PoolOk q.1 q.2
  all : ∀ h : Nat, q.2.tab.all h = if (h : Int) = x then PlaceS.zero else S.tab.all h
  many : q.2.tab.many = S.tab.many - 1
  got : ∀ y, got q.1 q.2 y = if y = x then none else got M S y
  keep : Keep M q.1
structure Shifted (M : RamS) (S : PoolS) (x : Int) (m : Nat) (q : RamS × PoolS) : Prop where
  ok : PoolOk q.1 q.2
  all : ∀ h : Nat, (h : Int) ≠ x → q.2.tab.all h = S.tab.all h
  place : ∃ k : Nat, q.2.tab.all x.toNat = ⟨(m : Nat), (k : Nat), (S.tab.all x.toNat).len⟩
  many : q.2.tab.many = S.tab.many
  got : ∀ y, got q.1 q.2 y = got M S y
  keep : Keep M q.1
section
variable {M M' : RamS} {S : PoolS} {n h : Nat} {g : PgS} {d : List UInt8}
theorem PoolOk.bkok (h : PoolOk M S) {c : Nat} (hc : c < 64) : BkOk (S.bks c) := ⟨fun n p hp => by
  rw [h.bks c hc] at hp
  obtain ⟨g, hg, _, rfl⟩ := bkOf_some hp
  have h1 := (List.getElem?_eq_some_iff.1 hg).1
  have h2 := h.len
  obtain ⟨L, hI⟩ := h.pgs.pg n g hg
  have h3 := hI.ok.set256
  have h4 := cnt_le g.set
  dsimp only
  omega⟩
theorem note_law {S : PoolS} (hp : PgsOk M S.pgs) (ht : TabPg S.tab S.pgs none) (hb : BksBut S.bks S.pgs n g.cls) (hpos : ∀ (m : Nat) (q : PgS), m ≠ n → S.pgs[m]? = some (some q) → 0 < cnt q.set) (hl : S.pgs.length ≤ 512) (hn : S.pgs[n]? = some (some g)) :
    PoolOk (noteF M S n).1 (noteF M S n).2 ∧ (noteF M S n).2.tab = S.tab ∧ (∀ x, got (noteF M S n).1 (noteF M S n).2 x = got M S x) ∧ Keep M (noteF M S n).1 := by
  unfold noteF
  rw [hn]
  dsimp only
  split
  · next h0 =>
    refine ⟨⟨hp, ht, hb.put hn rfl, fun m q hq => ?_, hl⟩, rfl, fun x => rfl, Keep.refl M⟩
    by_cases hm : m = n
    · subst hm; dsimp only at hq; rw [hn] at hq; cases hq; exact h0
    · exact hpos m q hm hq
  · next h0 =>
    have h00 : cnt g.set = 0 := by omega
    obtain ⟨L, hI⟩ := hp.pg n g hn
    refine ⟨⟨hp.close hn, ht.close hn h00, hb.del hn rfl, fun m q hq => ?_, by dsimp only; rw [List.length_set]; exact hl⟩, rfl, fun x => ?_, close_keep hI.ok⟩
    · dsimp only at hq
      rcases get_set hn hq with ⟨_, e⟩ | ⟨hne, e⟩
      · cases e
      · exact hpos m q hne e
    · refine got_keep ht (fun m ob ln q h' b1 b2 V => ⟨q, ?_, obj_congr (fun r _ => giveL_frame _ _ _) _ _⟩) x
      have hne : n ≠ m := by
        rintro rfl
        have := V.pg; rw [hn] at this; cases this
        have := cnt_pos V.bit
        omega
      rw [List.getElem?_set, if_neg hne]; exact V.pg
theorem drop_eq {t : TabS} {x : Int} (hx : t.inb x = true) : t.drop x = ((t.all x.toNat, true), ⟨(t.put x.toNat PlaceS.zero).all, t.many - 1⟩) := by
  unfold TabS.drop; rw [if_pos hx]
theorem PoolOk.at (h : PoolOk M S) {x : Int} (hx : S.tab.inb x = true) : ∃ n ob ln g, ValidP S.pgs (S.tab.all x.toNat) n ob ln g ∧ x = (x.toNat : Int) ∧ 1 ≤ x.toNat ∧ x.toNat ≤ 512 := by
  obtain ⟨h1, h2, h3⟩ := TabS.inb_yes hx
  obtain ⟨n, ob, ln, g, V⟩ := h.tab.val x.toNat (by omega) (by omega) h3
  exact ⟨n, ob, ln, g, V, by omega, by omega, by omega⟩
theorem got_none {x : Int} (h : S.tab.inb x = false) : got M S x = none := by unfold got; rw [h]; rfl
theorem got_some (hP : PoolOk M S) {x : Int} (h : S.tab.inb x = true) : ∃ d, got M S x = some d ∧ d.length = (S.tab.all x.toNat).len.toNat := by
  obtain ⟨n, ob, ln, g, V, _⟩ := hP.at h
  obtain ⟨L, hI⟩ := hP.pgs.pg n g V.pg
  refine ⟨obj M g ob ln, ?_, ?_⟩
  · unfold got; rw [if_pos h, gotP_eq V]
  · rw [obj_length hP.pgs.ram hI.ok V.obl (csz_of V.cls), V.eq]; rfl
theorem inb_off {t : TabS} {x : Int} (h : t.all x.toNat = PlaceS.zero) : t.inb x = false := by
  unfold TabS.inb
  exact decide_eq_false fun hh => hh.2.2 h
theorem toNat_ne {x y : Int} (hy1 : 1 ≤ y) (hne : x ≠ y) : x.toNat ≠ y.toNat := by omega
set_option maxHeartbeats 400000 in
theorem free_law (hP : PoolOk M S) {x : Int} (hx : S.tab.inb x = true) : ∃ n ob ln g, ValidP S.pgs (S.tab.all x.toNat) n ob ln g ∧ S.free1 M x = (true, noteF (givePg M g ob).1 ⟨(S.tab.drop x).2, S.pgs.set n (some (givePg M g ob).2), S.bks⟩ n) ∧ Freed M S x (S.free1 M x).2 := by
  obtain ⟨n, ob, ln, g, V, hxx, x1, x2⟩ := hP.at hx
  obtain ⟨L, hI⟩ := hP.pgs.pg n g V.pg
  obtain ⟨p1, p2, p3⟩ := give_ram hP.pgs.ram hI V.obl
  have pI := give_inv hP.pgs.ram hI V.obl V.bit
  have hrow : (givePg M g ob).2.row = g.row := rfl
  have hcls : (givePg M g ob).2.cls = g.cls := rfl
  have hset : (givePg M g ob).2.set = g.set.set ob false := rfl
  have hpo := fun j m => give_other (M := M) (g := g) (j := j) (m := m) hP.pgs.ram hI V.obl
  have e0 : S.free1 M x = (true, noteF (givePg M g ob).1 ⟨(S.tab.drop x).2, S.pgs.set n (some (givePg M g ob).2), S.bks⟩ n) := by
    unfold PoolS.free1 freeAt
    rw [if_pos hx, V.eq]
    dsimp only
    rw [Int.toNat_natCast, Int.toNat_natCast, V.pg]
  refine ⟨n, ob, ln, g, V, e0, ?_⟩
  rw [e0, drop_eq hx]
  dsimp only
  generalize givePg M g ob = P at *
  obtain ⟨M1, g1⟩ := P
  dsimp only at *
  have T1 := hP.tab.drop x1 x2 V
  have T2 := T1.give V.pg hset hcls
  have hB : BksBut S.bks (S.pgs.set n (some g1)) n g1.cls := by rw [hcls]; exact hP.bks.step V.pg hcls
  obtain ⟨n1, n2, n3, n4⟩ := note_law (M := M1) (S := ⟨⟨(S.tab.put x.toNat PlaceS.zero).all, S.tab.many - 1⟩, S.pgs.set n (some g1), S.bks⟩) (n := n) (g := g1) (hP.pgs.step V.pg p1 p2 hrow pI p3) T2 hB
    (fun m q hne hq => by
      rcases get_set V.pg hq with ⟨e, _⟩ | ⟨_, e⟩
      · exact absurd e hne
      · exact hP.pos m q e) (by dsimp only; rw [List.length_set]; exact hP.len) (set_at V.pg _)
  refine ⟨n1, fun h => ?_, by rw [n2], fun y => ?_, (keep_of_fr p2 hI.ok.own p3).trans n4⟩
  · rw [n2]; dsimp only; rw [put_all]
    by_cases hh : h = x.toNat
    · rw [if_pos hh, if_pos (by omega)]
    · rw [if_neg hh, if_neg (by omega)]
  · rw [n3]
    by_cases hy : y = x
    · subst hy
      rw [if_pos rfl]
      exact got_none (inb_off (by dsimp only; rw [put_all, if_pos rfl]))
    · rw [if_neg hy]
      have e1 : got M1 ⟨⟨(S.tab.put x.toNat PlaceS.zero).all, S.tab.many - 1⟩, S.pgs.set n (some g1), S.bks⟩ y = got M ⟨⟨(S.tab.put x.toNat PlaceS.zero).all, S.tab.many - 1⟩, S.pgs, S.bks⟩ y :=
        got_keep T1 (fun m ob' ln' q h' b1 b2 V' => by
          by_cases hm : m = n
          · subst hm
            have := V'.pg; rw [V.pg] at this; cases this
            have hob : ob' ≠ ob := by
              rintro rfl
              exact (T1.exv _ rfl).2 h' b1 b2 (by rw [V'.eq]; exact place_nz _ _ V'.l1) ⟨by rw [V'.eq], by rw [V'.eq]⟩
            exact ⟨g1, set_at V.pg _, hpo ob' ln' hob (csz_of V'.cls)⟩
          · refine ⟨q, by rw [List.getElem?_set, if_neg (fun e => hm e.symm)]; exact V'.pg, ?_⟩
            exact obj_congr (fun r hr => p3 r (hP.pgs.apart m n q g hm V'.pg V.pg r hr)) _ _) y
      rw [e1]
      refine got_tab y ?_
      dsimp only
      rw [put_all, if_neg (toNat_ne (by omega) hy)]
theorem free_no {x : Int} (hx : S.tab.inb x = false) : S.free1 M x = (false, M, S) := by unfold PoolS.free1; rw [hx]; rfl
theorem PgsOk.tk {pgs : Pgs} (h : PgsOk M pgs) (a m : Nat) : PgsOk (M.tk a m) pgs := ⟨tk_ok h.ram a m, h.fr, fun n g hn => let ⟨L, hI⟩ := h.pg n g hn; ⟨L, hI.tk a m⟩, h.apart, h.frames⟩
theorem put_put (t : TabS) (h : Nat) (p : PlaceS) : (⟨((⟨(t.put h PlaceS.zero).all, t.many - 1⟩ : TabS).put h p).all, t.many - 1 + 1⟩ : TabS) = t.put h p := by
  unfold TabS.put
  dsimp only
  congr 1
  · funext k; split <;> rfl
  · omega
theorem shift_no1 {x : Int} (hx : S.tab.inb x = false) : S.shift1 M x = (false, M, S) := by unfold PoolS.shift1; rw [hx]; rfl
theorem shift_no2 {x : Int} (hb : shiftTo S x = none) : S.shift1 M x = (false, M, S) := by unfold PoolS.shift1; rw [hb]; split <;> rfl
set_option maxHeartbeats 800000 in
theorem shift_law (hP : PoolOk M S) {x : Int} (hx : S.tab.inb x = true) {m : Nat} (hb : shiftTo S x = some m) :
    ∃ n ob ln g g2 k L, ValidP S.pgs (S.tab.all x.toNat) n ob ln g ∧ S.pgs[m]? = some (some g2) ∧ m ≠ n ∧ m ≤ 4095 ∧ PgInv M g2 (k :: L) ∧ g2.cls = g.cls ∧ bestB (S.bks g.cls) [(n : Int)] = some m ∧ PgOk (shiftM M g g2 ob ln k).1 g ∧
      (∃ g', (shiftS M S g g2 x n ob ln m k).2.pgs[n]? = some (some g') ∧ PgOk (shiftS M S g g2 x n ob ln m k).1 g') ∧
      S.shift1 M x = (true, noteF (shiftS M S g g2 x n ob ln m k).1 (shiftS M S g g2 x n ob ln m k).2 n) ∧ Shifted M S x m (S.shift1 M x).2 := by
  obtain ⟨n, ob, ln, g, V, hxx, x1, x2⟩ := hP.at hx
  obtain ⟨L0, hI0⟩ := hP.pgs.pg n g V.pg
  have hcl := hI0.ok.cls
  have hb0 := hb
  unfold shiftTo at hb
  rw [V.eq, clsP_nat, ← V.cls] at hb
  dsimp only at hb
  obtain ⟨g2, hg2, hc2, hlt, hm5, hmn⟩ := bestB_at (hP.bks g.cls hcl) hP.len hb
  have hmn : m ≠ n := by rintro rfl; simp at hmn
  obtain ⟨L2, hI2⟩ := hP.pgs.pg m g2 hg2
  obtain ⟨k, L, hI⟩ := inv_room hI2 hlt
  obtain ⟨hf, hk, hkx⟩ := hI.takeHead
  have hk1 : g2.first - 1 = k := by omega
  have e0 : S.shift1 M x = (true, noteF (shiftS M S g g2 x n ob ln m k).1 (shiftS M S g g2 x n ob ln m k).2 n) := by
    unfold PoolS.shift1 shiftAt
    rw [if_pos hx, hb0]
    dsimp only
    rw [V.eq]
    dsimp only
    rw [Int.toNat_natCast, Int.toNat_natCast, Int.toNat_natCast, V.pg, hg2]
    dsimp only
    rw [hk1]
  have hdl : (obj M g ob ln).length = ln := obj_length hP.pgs.ram hI0.ok V.obl (csz_of V.cls)
  have hd2 : (obj M g ob ln).length ≤ csz g2.cls := by rw [hdl, hc2]; exact csz_of V.cls
  have Hs := hI.ok.set256
  have P0 := hP.pgs.tk (csz g.cls * ob + 0) ln
  have hI' := hI.tk (csz g.cls * ob + 0) ln
  obtain ⟨p1, p2, p3⟩ := put_ram P0.ram hI' hd2
  have pI := put_inv P0.ram hI' hd2
  have hrow : (shiftM M g g2 ob ln k).2.row = g2.row := rfl
  have hcls : (shiftM M g g2 ob ln k).2.cls = g2.cls := rfl
  have hset : (shiftM M g g2 ob ln k).2.set = g2.set.set k true := rfl
  have hps := put_same P0.ram hI' hd2
  rw [hdl] at hps
  have hpo := fun j m' => put_other (M := M.tk (csz g.cls * ob + 0) ln) (g := g2) (j := j) (m := m') P0.ram hI' hd2
  have hobt : ∀ (q : PgS) (j m' : Nat), obj (M.tk (csz g.cls * ob + 0) ln) q j m' = obj M q j m' := fun q j m' => obj_congr (fun _ _ => rfl) _ _
  have hfrt : ∀ j, (M.tk (csz g.cls * ob + 0) ln).frame j = M.frame j := fun _ => rfl
  have hfr0 : (M.tk (csz g.cls * ob + 0) ln).fr = M.fr := rfl
  have hcn := cnt_set hk true
  rw [hkx, if_neg (by decide), if_pos rfl, ← hset] at hcn
  have es : shiftS M S g g2 x n ob ln m k = ((givePg (shiftM M g g2 ob ln k).1 g ob).1, ⟨(S.tab.set x ⟨(m : Nat), (k : Nat), (ln : Nat)⟩).2, (S.pgs.set m (some (shiftM M g g2 ob ln k).2)).set n (some (givePg (shiftM M g g2 ob ln k).1 g ob).2), updB S.bks g2.cls (bput (S.bks g2.cls) m (cnt (shiftM M g g2 ob ln k).2.set, (shiftM M g g2 ob ln k).2.set.length))⟩) := rfl
  have hsm : shiftM M g g2 ob ln k = putPg (M.tk (csz g.cls * ob + 0) ln) g2 k (obj M g ob ln) := rfl
  refine ⟨n, ob, ln, g, g2, k, L, V, hg2, hmn, by omega, hI, hc2, hb, ?_⟩
  rw [e0, es]
  rw [← hsm] at p1 p2 p3 pI hps hpo
  generalize shiftM M g g2 ob ln k = P at *
  obtain ⟨M1, g2'⟩ := P
  dsimp only at *
  have P1 := P0.step hg2 p1 p2 hrow pI p3
  have hn1 : (S.pgs.set m (some g2'))[n]? = some (some g) := by rw [List.getElem?_set, if_neg hmn]; exact V.pg
  obtain ⟨L1, hI1⟩ := P1.pg n g hn1
  obtain ⟨q1, q2, q3⟩ := give_ram P1.ram hI1 V.obl
  have qI := give_inv P1.ram hI1 V.obl V.bit
  have hrow' : (givePg M1 g ob).2.row = g.row := rfl
  have hcls' : (givePg M1 g ob).2.cls = g.cls := rfl
  have hset' : (givePg M1 g ob).2.set = g.set.set ob false := rfl
  have hqo := fun j m' => give_other (M := M1) (g := g) (j := j) (m := m') P1.ram hI1 V.obl
  generalize givePg M1 g ob = Q at *
  obtain ⟨M2, g'⟩ := Q
  dsimp only at *
  have P2 := P1.step hn1 q1 q2 hrow' qI q3
  have T1 := hP.tab.drop x1 x2 V
  have T2 := T1.give V.pg hset' hcls'
  have hm2 : (S.pgs.set n (some g'))[m]? = some (some g2) := by rw [List.getElem?_set, if_neg (fun e => hmn e.symm)]; exact hg2
  have T3 := T2.take hm2 hk hkx hset hcls
  have T4 := T3.make (ln := ln) x1 x2 (by dsimp only; rw [put_all, if_pos rfl]) V.l1 V.l2 (hc2.trans V.cls)
  rw [put_put, ← List.set_comm _ _ hmn] at T4
  have hset1 : (S.tab.set x ⟨(m : Nat), (k : Nat), (ln : Nat)⟩).2 = S.tab.put x.toNat ⟨(m : Nat), (k : Nat), (ln : Nat)⟩ := by
    have h1 := V.l1
    have h2 := V.l2
    unfold TabS.set
    rw [if_pos ⟨hx, by unfold PlaceS.ok; dsimp only; omega⟩]
  rw [hset1]
  have B1 := (hP.bks.step hg2 hcls).put (set_at hg2 _) hcls
  have B2 := B1.step hn1 hcls'
  have hkex : ∀ h', 1 ≤ h' → h' ≤ 512 → (S.tab.put x.toNat PlaceS.zero).all h' ≠ PlaceS.zero → ¬ (((S.tab.put x.toNat PlaceS.zero).all h').page = m ∧ ((S.tab.put x.toNat PlaceS.zero).all h').obj = k) := (T3.exv _ rfl).2
  obtain ⟨n1, n2, n3, n4⟩ := note_law (M := M2) (S := ⟨S.tab.put x.toNat ⟨(m : Nat), (k : Nat), (ln : Nat)⟩, (S.pgs.set m (some g2')).set n (some g'), updB S.bks g2.cls (bput (S.bks g2.cls) m (cnt g2'.set, g2'.set.length))⟩) (n := n) (g := g') P2 T4 (by rw [hcls']; exact B2)
    (fun j q hne hq => by
      rcases get_set hn1 hq with ⟨e, _⟩ | ⟨_, e⟩
      · exact absurd e hne
      · rcases get_set hg2 e with ⟨_, e'⟩ | ⟨_, e'⟩
        · cases e'; omega
        · exact hP.pos j q e') (by dsimp only; rw [List.length_set, List.length_set]; exact hP.len) (set_at hn1 _)
  refine ⟨hI1.ok, ⟨g', set_at hn1 _, qI.ok⟩, rfl, n1, fun h hh => ?_, ⟨k, ?_⟩, by rw [n2]; rfl, fun y => ?_, ?_⟩
  · rw [n2]; dsimp only; rw [put_all, if_neg (by omega)]
  · rw [n2]; dsimp only; rw [put_all, if_pos rfl, V.eq]
  · rw [n3]
    have hg2r : ∀ r ∈ g2.row, r ∉ g.row := hP.pgs.apart m n g2 g hmn hg2 V.pg
    have hgr : ∀ r ∈ g.row, r ∉ g2.row := fun r h1 h2 => hg2r r h2 h1
    have hmf : ((S.pgs.set m (some g2')).set n (some g'))[m]? = some (some g2') := by rw [List.getElem?_set, if_neg (fun e => hmn e.symm)]; exact set_at hg2 _
    by_cases hy : y = x
    · subst hy
      have V' : ValidP ((S.pgs.set m (some g2')).set n (some g')) ⟨(m : Nat), (k : Nat), (ln : Nat)⟩ m k ln g2' :=
        ⟨rfl, hmf, by rw [hset, List.length_set]; exact hk, by rw [hset, getD_set hk, if_pos rfl], V.l1, V.l2, hcls.trans (hc2.trans V.cls)⟩
      have hib : (S.tab.put y.toNat ⟨(m : Nat), (k : Nat), (ln : Nat)⟩).inb y = true := by
        have := inb_nat (t := S.tab.put y.toNat ⟨(m : Nat), (k : Nat), (ln : Nat)⟩) (h := y.toNat) x1 x2 (by rw [put_all, if_pos rfl]; exact place_nz m k V.l1)
        rwa [← hxx] at this
      unfold got
      dsimp only
      rw [if_pos hx, gotP_eq V, if_pos hib, put_all, if_pos rfl, gotP_eq V']
      refine congrArg some (Eq.trans ?_ hps)
      exact obj_congr (fun r hr => q3 r (hg2r r (by rw [← hrow]; exact hr))) _ _
    · have a1 : got M2 ⟨S.tab.put x.toNat ⟨(m : Nat), (k : Nat), (ln : Nat)⟩, (S.pgs.set m (some g2')).set n (some g'), updB S.bks g2.cls (bput (S.bks g2.cls) m (cnt g2'.set, g2'.set.length))⟩ y = got M2 ⟨⟨(S.tab.put x.toNat PlaceS.zero).all, S.tab.many - 1⟩, (S.pgs.set m (some g2')).set n (some g'), S.bks⟩ y :=
        got_tab y (by dsimp only; rw [put_all, put_all, if_neg (toNat_ne (by omega) hy), if_neg (toNat_ne (by omega) hy)])
      have a2 : got M ⟨⟨(S.tab.put x.toNat PlaceS.zero).all, S.tab.many - 1⟩, S.pgs, S.bks⟩ y = got M S y :=
        got_tab y (by dsimp only; rw [put_all, if_neg (toNat_ne (by omega) hy)])
      rw [a1, ← a2]
      refine got_keep T1 (fun m' ob' ln' q h' b1 b2 V' => ?_) y
      have hz' : (S.tab.put x.toNat PlaceS.zero).all h' ≠ PlaceS.zero := by
        have := V'.eq
        dsimp only at this
        rw [this]; exact place_nz _ _ V'.l1
      have hVe : (S.tab.put x.toNat PlaceS.zero).all h' = ⟨(m' : Nat), (ob' : Nat), (ln' : Nat)⟩ := V'.eq
      by_cases hm : m' = n
      · subst hm
        have := V'.pg; rw [V.pg] at this; cases this
        have hob : ob' ≠ ob := by
          rintro rfl
          exact (T1.exv _ rfl).2 h' b1 b2 hz' ⟨by dsimp only; rw [hVe], by dsimp only; rw [hVe]⟩
        refine ⟨g', set_at hn1 _, ?_⟩
        rw [hqo ob' ln' hob (csz_of V'.cls), obj_congr (M' := M1) (M := M.tk (csz g.cls * ob + 0) ln) (g := g) (fun r hr => p3 r (hgr r hr)), hobt]
      · by_cases hm' : m' = m
        · subst hm'
          have := V'.pg; rw [hg2] at this; cases this
          have hob : ob' ≠ k := by
            rintro rfl
            exact hkex h' b1 b2 hz' ⟨by rw [hVe], by rw [hVe]⟩
          refine ⟨g2', hmf, ?_⟩
          rw [obj_congr (M' := M2) (M := M1) (g := g2') (fun r hr => q3 r (hg2r r (by rw [← hrow]; exact hr))), hpo ob' ln' hob (csz_of V'.cls), hobt]
        · refine ⟨q, by rw [List.getElem?_set, if_neg (fun e => hm e.symm), List.getElem?_set, if_neg (fun e => hm' e.symm)]; exact V'.pg, ?_⟩
          exact obj_congr (fun r hr => (q3 r (hP.pgs.apart m' n q g hm V'.pg V.pg r hr)).trans (p3 r (hP.pgs.apart m' m q g2 hm' V'.pg hg2 r hr))) _ _
  · have K1 : Keep M M1 := by
      refine keep_of_fr (g := g2) (p2.trans hfr0) hI.ok.own fun j hj => (p3 j hj).trans (hfrt j)
    have K2 : Keep M1 M2 := keep_of_fr q2 hI1.ok.own q3
    exact (K1.trans K2).trans n4
end
end Go.Proofs.YtheblkofemobdaaGreat

/-
  The pool's contracts as a whole.
-/
namespace Go.Proofs.YtheblkofemobdaaGreat
open Go.RowKit

section
variable {e : Env} {w : World} {R A : List HP} {b tb rb : Nat} {S : PoolS} {M : RamS}
theorem poNote (H : Holds e w (poolH b tb rb S :: ramH rb M :: R)) {n : Nat} {g : PgS} (hn : S.pgs[n]? = some (some g)) (h4 : n ≤ 4095) (hO : PgOk M g) :
    Calls Tryz.prog 46 #[.pointer (some ⟨b, 0, none⟩), .int .i64 n] w (Ret e (.tuple #[]) (poolH b tb rb (noteF M S n).2 :: ramH rb (noteF M S n).1 :: R)) := by
  unfold noteF
  rw [hn]
  dsimp only
  by_cases h0 : 0 < cnt g.set
  · rw [if_pos h0]
    exact poNote_used H hn h4 hO.cls h0
  · rw [if_neg h0]
    exact poNote_empty H hn h4 hO (by omega)
theorem alloc_val (r : (Int × Int) × RamS × PoolS) : r = (r.1, r.2.1, r.2.2) := rfl
set_option maxRecDepth 100000 in
theorem poAlloc (H : Holds e w (poolH b tb rb S :: ramH rb M :: R)) (hP : PoolOk M S) (vd : Value) (d : List UInt8) (hd : ∀ w', Holds e w' R → RdB w' vd d) (hdl : d.length ≤ 1000000000) :
    Calls Tryz.prog 11 #[.pointer (some ⟨b, 0, none⟩), vd] w
      (Ret e (.tuple #[.int .i64 (S.alloc M d).1.1, .int .i64 (S.alloc M d).1.2]) (poolH b tb rb (S.alloc M d).2.2 :: ramH rb (S.alloc M d).2.1 :: R)) := by
  obtain ⟨va, vc, rfl⟩ := (hd _ H.drop.drop).shape
  by_cases hbad : d.length < 1 ∨ 4096 < d.length
  · rw [alloc_bad hbad]
    exact retQ (poAlloc_bad va d.length vc hbad hdl _) H
  · have h1 : 1 ≤ d.length := by omega
    have h2 : d.length ≤ 4096 := by omega
    have hm := hP.tab.bd
    have hc : (d.length - 1) / 64 < 64 := by omega
    by_cases hfull : 512 ≤ S.tab.many
    · rw [alloc_no h1 h2 (.inl hfull)]
      exact retQ (poAlloc_full H va d.length vc h1 h2 hfull) H
    · have hok := hP.bkok hc
      cases hb : bestB (S.bks ((d.length - 1) / 64)) [] with
      | some n =>
        obtain ⟨g, Rm, hg, hn5⟩ := hP.room_old hc hb
        obtain ⟨k, L, hI⟩ := Rm.inv
        obtain ⟨hf, _, _⟩ := hI.takeHead
        have hk1 : g.first - 1 = k := by omega
        have hr := poAlloc_in H (.slice va d.length vc) d hd h1 h2 (by omega) hm.1 (S1 := S) (M1 := M) (fun w' h' => poRoom_old h' hc hok hb) rfl Rm.pg (by omega) hI hg
        have e1 : S.alloc M d = S.into M n d := by
          unfold PoolS.alloc
          rw [if_neg hbad, if_neg hfull, hb]
        rw [e1]
        unfold PoolS.into
        rw [Rm.pg]
        dsimp only
        rw [hk1]
        exact hr
      | none =>
        by_cases hlt : M.fr.free.length < cFrames ((d.length - 1) / 64)
        · have e1 : S.alloc M d = ((0, 11), M, S) := by
            unfold PoolS.alloc
            rw [if_neg hbad, if_neg hfull, hb]
            dsimp only
            rw [if_pos hlt]
          rw [e1]
          exact poAlloc_no H va d.length vc h1 h2 (by omega) hok hb hlt
        · obtain ⟨g, Rm, hg, hgot, hk⟩ := hP.room_new hc (by omega) (by omega : cFrames ((d.length - 1) / 64) ≤ M.fr.free.length)
          obtain ⟨k, L, hI⟩ := Rm.inv
          obtain ⟨hf, _, _⟩ := hI.takeHead
          have hk1 : g.first - 1 = k := by omega
          have hh := (roomy_len hP (by omega)).2
          have hl := hP.len
          have hr := poAlloc_in H (.slice va d.length vc) d hd h1 h2 (by omega) hm.1 (S1 := (S.fresh M ((d.length - 1) / 64)).2) (M1 := (S.fresh M ((d.length - 1) / 64)).1) (fun w' h' => poRoom_new h' hc hok hb (by omega) (by omega)) rfl Rm.pg (by omega) hI hg
          have e1 : S.alloc M d = (S.fresh M ((d.length - 1) / 64)).2.into (S.fresh M ((d.length - 1) / 64)).1 (holeOf S.pgs) d := by
            unfold PoolS.alloc
            rw [if_neg hbad, if_neg hfull, hb]
            dsimp only
            rw [if_neg hlt]
          rw [e1]
          unfold PoolS.into
          rw [Rm.pg]
          dsimp only
          rw [hk1]
          exact hr
set_option maxRecDepth 100000 in
theorem poFree (H : Holds e w (poolH b tb rb S :: ramH rb M :: R)) (hP : PoolOk M S) (x : Int) :
    Calls Tryz.prog 13 #[.pointer (some ⟨b, 0, none⟩), .int .i64 x] w (Ret e (.bool (S.free1 M x).1) (poolH b tb rb (S.free1 M x).2.2 :: ramH rb (S.free1 M x).2.1 :: R)) := by
  have hm := hP.tab.bd
  cases hx : S.tab.inb x with
  | false =>
    rw [free_no hx]
    exact poFree_no (p := PlaceS.zero) H (by unfold TabS.drop; rw [hx]; rfl) hm.1 hm.2
  | true =>
    obtain ⟨n, ob, ln, g, V, e0, F⟩ := free_law hP hx
    obtain ⟨L, hI⟩ := hP.pgs.pg n g V.pg
    have hn5 := (List.getElem?_eq_some_iff.1 V.pg).1
    have hl := hP.len
    rw [e0]
    dsimp only
    refine (poFree_yes (n := n) (ob := ob) (ln := ln) (tab := (S.tab.drop x).2) H (by rw [drop_eq hx, ← V.eq]) hm.1 hm.2 V.pg hI.ok V.obl V.bit (F := [poolH b tb rb (noteF (givePg M g ob).1 ⟨(S.tab.drop x).2, S.pgs.set n (some (givePg M g ob).2), S.bks⟩ n).2, ramH rb (noteF (givePg M g ob).1 ⟨(S.tab.drop x).2, S.pgs.set n (some (givePg M g ob).2), S.bks⟩ n).1]) fun w' Y h' => ?_).mono fun en w' ⟨r1, r2⟩ => ⟨r1, r2.ungrp⟩
    exact (poNote h' (set_at V.pg _) (by omega) (give_inv hP.pgs.ram hI V.obl V.bit).ok).mono fun en w'' ⟨r1, r2⟩ => ⟨r1, Holds.mkGrp (L := [_, _]) r2⟩
set_option maxRecDepth 100000 in
theorem poShift (H : Holds e w (poolH b tb rb S :: ramH rb M :: R)) (hP : PoolOk M S) (x : Int) :
    Calls Tryz.prog 21 #[.pointer (some ⟨b, 0, none⟩), .int .i64 x] w (Ret e (.bool (S.shift1 M x).1) (poolH b tb rb (S.shift1 M x).2.2 :: ramH rb (S.shift1 M x).2.1 :: R)) := by
  cases hx : S.tab.inb x with
  | false =>
    rw [shift_no1 hx]
    exact poShift_no (p := PlaceS.zero) H (by unfold TabS.get; rw [hx]; rfl)
  | true =>
    cases hb : shiftTo S x with
    | none =>
      rw [shift_no2 hb]
      obtain ⟨n, ob, ln, g, V, _⟩ := hP.at hx
      obtain ⟨L, hI⟩ := hP.pgs.pg n g V.pg
      unfold shiftTo at hb
      rw [V.eq, clsP_nat, ← V.cls] at hb
      exact poShift_stay H (n := n) (ob := ob) (ln := ln) (by unfold TabS.get; rw [if_pos hx, V.eq]) V.pg hI.ok.cls (hP.bkok hI.ok.cls) hb
    | some m =>
      obtain ⟨n, ob, ln, g, g2, k, L, V, hg2, hmn, hm4, hI, hc2, hbb, hgo, ⟨g', hg', ho'⟩, e0, F⟩ := shift_law hP hx hb
      obtain ⟨L0, hI0⟩ := hP.pgs.pg n g V.pg
      have hn5 := (List.getElem?_eq_some_iff.1 V.pg).1
      have hl := hP.len
      rw [e0]
      dsimp only
      refine (poShift_move (n := n) (ob := ob) (ln := ln) (m := m) (k := k) (L := L) H (by unfold TabS.get; rw [if_pos hx, V.eq]) V.pg hI0.ok V.obl V.bit (csz_of V.cls) (hP.bkok hI0.ok.cls) hbb hmn hg2 hm4 hI hc2 hP.pgs.ram hgo (F := [poolH b tb rb (noteF (shiftS M S g g2 x n ob ln m k).1 (shiftS M S g g2 x n ob ln m k).2 n).2, ramH rb (noteF (shiftS M S g g2 x n ob ln m k).1 (shiftS M S g g2 x n ob ln m k).2 n).1]) fun w' Y h' => ?_).mono fun en w' ⟨r1, r2⟩ => ⟨r1, r2.ungrp⟩
      exact (poNote h' hg' (by omega) ho').mono fun en w'' ⟨r1, r2⟩ => ⟨r1, Holds.mkGrp (L := [_, _]) r2⟩
/-- What reading makes of the RAM. -/
def readM (M : RamS) (S : PoolS) (x : Int) : RamS := match S.pgs[(S.tab.all x.toNat).page.toNat]? with
  | some (some g) => M.tk (csz g.cls * (S.tab.all x.toNat).obj.toNat + 0) (S.tab.all x.toNat).len.toNat
  | _ => M
theorem PoolOk.tk (h : PoolOk M S) (a m : Nat) : PoolOk (M.tk a m) S := ⟨h.pgs.tk a m, h.tab, h.bks, h.pos, h.len⟩
theorem got_tk (a m : Nat) (x : Int) : got (M.tk a m) S x = got M S x := by
  unfold got gotP
  split
  · split
    · exact congrArg some (obj_congr (fun _ _ => rfl) _ _)
    · rfl
  · rfl
theorem tk_keep (M : RamS) (a m : Nat) : Keep M (M.tk a m) := ⟨rfl, fun _ => .inl rfl, fun _ _ _ => rfl⟩
theorem read_law (x : Int) (h : PoolOk M S) : PoolOk (readM M S x) S ∧ (∀ y, got (readM M S x) S y = got M S y) ∧ Keep M (readM M S x) ∧ (readM M S x).fr = M.fr := by
  unfold readM
  split
  · exact ⟨h.tk _ _, got_tk _ _, tk_keep _ _ _, rfl⟩
  · exact ⟨h, fun _ => rfl, Keep.refl M, rfl⟩
theorem poRead (H : Holds e w (poolH b tb rb S :: ramH rb M :: R)) (hP : PoolOk M S) (x : Int) {d : List UInt8} (hd : got M S x = some d) :
    Calls Tryz.prog 20 #[.pointer (some ⟨b, 0, none⟩), .int .i64 x] w (RetEx e (fun v : Value => .tuple #[v, .bool true]) (fun v => bts v d :: poolH b tb rb S :: ramH rb (readM M S x) :: R)) := by
  have hx : S.tab.inb x = true := by
    cases hx : S.tab.inb x with
    | true => rfl
    | false => rw [got_none hx] at hd; cases hd
  obtain ⟨n, ob, ln, g, V, _⟩ := hP.at hx
  obtain ⟨L, hI⟩ := hP.pgs.pg n g V.pg
  have h1 := poRead_yes (n := n) (ob := ob) (ln := ln) (x := x) H (by unfold TabS.get; rw [if_pos hx, V.eq]) V.pg hI.ok V.obl V.bit (csz_of V.cls)
  have h2 : d = obj M g ob ln := by
    unfold got at hd
    rw [if_pos hx, gotP_eq V] at hd
    cases hd; rfl
  have h3 : readM M S x = M.tk (csz g.cls * ob + 0) ln := by
    unfold readM
    rw [V.eq]
    dsimp only
    rw [Int.toNat_natCast, Int.toNat_natCast, Int.toNat_natCast, V.pg]
  rw [h2, h3]
  exact h1
theorem poReadNo (H : Holds e w (poolH b tb rb S :: R)) (x : Int) (hd : S.tab.inb x = false) :
    Calls Tryz.prog 20 #[.pointer (some ⟨b, 0, none⟩), .int .i64 x] w (Ret e (.tuple #[.slice none 0 0, .bool false]) (poolH b tb rb S :: R)) :=
  poRead_no (p := PlaceS.zero) H (by unfold TabS.get; rw [hd]; rfl)
theorem hsum_zero (f : PlaceS → Nat) : hsum f TabS.zero = 0 := by
  have : ∀ n, ((List.range n).map fun k => if TabS.zero.all (k + 1) = PlaceS.zero then 0 else f (TabS.zero.all (k + 1))).sum = 0 := by
    intro n
    induction n with
    | zero => rfl
    | succ n ih => rw [List.range_succ, List.map_append, List.sum_append, ih]; simp only [List.map_cons, List.map_nil, List.sum_cons, List.sum_nil]; rw [if_pos (show TabS.zero.all (n + 1) = PlaceS.zero from rfl)]; rfl
  exact this 512
theorem PoolOk.new {n : Nat} (h8 : 8 ≤ n) (h96 : n ≤ 96) : PoolOk (RamS.new n) PoolS.new := by
  refine ⟨⟨RamOk.new n, FrOk.new h8 h96, fun n g h => by (cases h), fun a b g g' _ h => by (cases h), ?_⟩, ⟨fun h h1 h2 h3 => absurd rfl h3, fun h h' _ _ _ _ h3 => absurd rfl h3, ?_, fun q hq => by (cases hq), fun f => ?_⟩, fun c _ => ?_, fun n g h => by (cases h), Nat.zero_le _⟩
  · show FrS.count _ [3] = 0
    unfold FrS.count RamS.new FrS.new
    dsimp only
    rw [List.filter_eq_nil_iff.2 (fun x hx => by have := List.eq_of_mem_replicate hx; subst this; decide)]
    rfl
  · show (0 : Int) = ((hsum (fun _ => 1) TabS.zero : Nat) : Int)
    rw [hsum_zero]
    rfl
  · show 0 = hsum (fun p => f (clsP p)) TabS.zero + 0
    rw [hsum_zero]
  · funext m
    unfold bkOf PoolS.new
    rfl
end
end Go.Proofs.YtheblkofemobdaaGreat

/-
  Rows of structs; contracts of the reference of layer 15.
-/
namespace Go.Proofs.YtheblkofemobdaaGreat
open Go.RowKit

section
variable {α : Type} (f : α → List Value) (s : Nat) (hf : ∀ q, (f q).length = s)
include hf
theorem flat_len (Q : List α) : (Q.flatMap f).length = Q.length * s := by
  induction Q with
  | nil => simp
  | cons q Q ih => rw [List.flatMap_cons, List.length_append, ih, hf, List.length_cons, Nat.add_mul, Nat.one_mul, Nat.add_comm]
theorem flat_get {Q : List α} {k : Nat} {q : α} (hk : Q[k]? = some q) {j : Nat} {u : Value} (hj : (f q)[j]? = some u) : (Q.flatMap f)[k * s + j]? = some u := by
  have hjs : j < s := by have := (List.getElem?_eq_some_iff.1 hj).1; rwa [hf] at this
  induction Q generalizing k with
  | nil => cases hk
  | cons q0 Q ih =>
    rw [List.flatMap_cons]
    cases k with
    | zero => cases hk; rw [Nat.zero_mul, Nat.zero_add, List.getElem?_append_left (by rw [hf]; exact hjs)]; exact hj
    | succ k =>
      rw [List.getElem?_append_right (by rw [hf, Nat.add_mul]; omega), hf, show (k + 1) * s + j - s = k * s + j by rw [Nat.add_mul]; omega]
      exact ih hk
theorem flat_take (Q : List α) (k : Nat) : (Q.take k).flatMap f = (Q.flatMap f).take (k * s) := by
  by_cases hk : k ≤ Q.length
  · have h := congrArg (List.take (k * s)) (List.flatMap_append (xs := Q.take k) (ys := Q.drop k) (f := f))
    rw [List.take_append_drop] at h
    rw [h, List.take_left' (by rw [flat_len f s hf, List.length_take, Nat.min_eq_left hk])]
  · rw [List.take_of_length_le (by omega), List.take_of_length_le (by rw [flat_len f s hf]; exact Nat.mul_le_mul_right _ (by omega))]
theorem flat_drop (Q : List α) (k : Nat) (hk : k ≤ Q.length) : (Q.drop k).flatMap f = (Q.flatMap f).drop (k * s) := by
  have h := congrArg (List.drop (k * s)) (List.flatMap_append (xs := Q.take k) (ys := Q.drop k) (f := f))
  rw [List.take_append_drop] at h
  rw [h, List.drop_left' (by rw [flat_len f s hf, List.length_take, Nat.min_eq_left hk])]
theorem rowf_cell {w : World} {g o c n : Nat} {Q : List α} (h : Reads w (.slice (some ⟨g, o, none⟩) n c) s n (Q.flatMap f)) {k : Nat} {q : α} (hk : Q[k]? = some q) {j : Nat} {u : Value} (hj : (f q)[j]? = some u) : w.cell? ⟨g, o + k * s + j, none⟩ = some u := by
  have h1 := flat_get f s hf hk hj
  obtain ⟨_, h2 | ⟨a, cap, h3, _, h5⟩⟩ := h
  · cases h2.1
  · cases h3
    have := h5 _ u h1
    rw [Addr.add_at] at this
    rwa [Nat.add_assoc]
end
theorem reads_n {w : World} {a : Option Addr} {n m c size : Nat} {xs : List Value} (h : Reads w (.slice a n c) size m xs) : n = m := by
  obtain ⟨_, ⟨e, rfl⟩ | ⟨_, _, e, _⟩⟩ := h
  · cases e; rfl
  · cases e; rfl

theorem left_eq (c f : Nat) : left c f = f * 4096 - f * 4096 / (64 * (c + 1)) * (64 * (c + 1)) := by
  unfold left
  have := Nat.div_add_mod (f * 4096) (64 * (c + 1))
  rw [Nat.mul_comm] at this
  omega
def fineF (c f : Nat) : Bool := (List.range 4).all fun g => decide (left c f * (g + 1) ≤ left c (g + 1) * f)
theorem fine_all : ∀ c : Fin 64, fineF c (cFrames c) = true ∧ ∀ f : Fin 4, f.val + 1 < cFrames c → fineF c (f.val + 1) = false := by decide
def rObjects (c f : Nat) : Nat := 4096 * f / (64 * (c + 1))
theorem rObjects_bd (c f : Nat) (hf : f ≤ 4) : rObjects c f ≤ 256 := by
  unfold rObjects
  have : 4096 * f / (64 * (c + 1)) ≤ 4096 * f / 64 := Nat.div_le_div_left (by omega) (by omega)
  omega
theorem rObjects_cls (c : Nat) : rObjects c (cFrames c) = cObjects c := by unfold rObjects cObjects; rw [Nat.mul_comm]
section
variable {w : World}
set_option maxRecDepth 100000 in
theorem r15Objects (c f : Nat) (h : c < 64) (hf : f ≤ 4) : Calls Tryz.prog 86 #[.int .i64 c, .int .i64 f] w (Quiet w (.int .i64 (rObjects c f : Nat))) := by
  have hO := rObjects_bd c f hf
  have key : ∀ k : Nat, k < rObjects c f ↔ (k + 1) * (64 * (c + 1)) ≤ 4096 * f := fun k => by
    unfold rObjects
    rw [Nat.lt_iff_add_one_le, Nat.le_div_iff_mul_le (by omega)]
  have KEY := Lib.hid key
  clear key
  generalize rObjects c f = N at *
  go_enter Tryz.func86, Tryz.ntmps86
  go_wp2_with fail
  go_loopw [5] (fun i wr => ∃ k : Nat, k ≤ N ∧ i = .int .i64 (k : Nat) ∧ wr = w) (fun i _ => N - (intOf i).toNat)
  case atStart => exact ⟨0, by omega, rfl, rfl⟩
  case round =>
    obtain ⟨k, hk, rfl, rfl⟩ := hrel
    have hm : (k + 1) * (64 * (c + 1)) ≤ 257 * 4096 := Nat.mul_le_mul (by omega) (by omega)
    have e1 : ((k : Int) + 1) * 64 * ((c : Int) + 1) = (((k + 1) * (64 * (c + 1)) : Nat) : Int) := by
      simp [Int.mul_assoc]
    have hk64 : ((k : Int) + 1) * 64 ≤ 257 * 64 := by omega
    have hb := KEY.out k
    have e2 : (4096 : Int) * f = ((4096 * f : Nat) : Int) := by simp
    have hf2 : 4096 * f ≤ 16384 := by omega
    obtain ⟨p, hp⟩ : ∃ p, (k + 1) * (64 * (c + 1)) = p := ⟨_, rfl⟩
    obtain ⟨q, hq⟩ : ∃ q, 4096 * f = q := ⟨_, rfl⟩
    rw [hp, hq] at hb
    rw [hp] at hm e1
    rw [hq] at hf2 e2
    clear hp hq
    by_cases hlt : k < N
    · have hle := hb.1 hlt
      clear hb
      go_wp2
      go_roundw
      case rel => exact ⟨k + 1, by omega, by go_num, trivial⟩
      case measure => simp [intOf]; omega
    · have hgt : ¬ p ≤ q := fun hh => hlt (hb.2 hh)
      obtain rfl : k = N := by omega
      clear hb
      have hpq : q < p := by omega
      clear hgt
      go_wp2
      go_ret
      exact ⟨rfl, 0, rfl⟩
theorem r15Left (c f : Nat) (h : c < 64) (hf : f ≤ 4) : Calls Tryz.prog 52 #[.int .i64 c, .int .i64 f] w (Quiet w (.int .i64 (left c f : Nat))) := by
  have co := r15Objects (w := w) c f h hf
  have hO := rObjects_bd c f hf
  have e1 : (4096 * f : Nat) = left c f + rObjects c f * (64 * (c + 1)) := by
    unfold left rObjects
    have := Nat.div_add_mod (f * 4096) (64 * (c + 1))
    rw [Nat.mul_comm 4096 f, Nat.mul_comm (f * 4096 / _)]
    omega
  have hm : rObjects c f * (64 * (c + 1)) ≤ 16384 := by omega
  have e2 : (rObjects c f : Int) * 64 * ((c : Int) + 1) = ((rObjects c f * (64 * (c + 1)) : Nat) : Int) := by
    simp [Int.mul_assoc]
  have hk64 : (rObjects c f : Int) * 64 ≤ 256 * 64 := by omega
  have e3 : (4096 : Int) * f = ((4096 * f : Nat) : Int) := by simp
  obtain ⟨p, hp⟩ : ∃ p, rObjects c f * (64 * (c + 1)) = p := ⟨_, rfl⟩
  obtain ⟨q, hq⟩ : ∃ q, 4096 * f = q := ⟨_, rfl⟩
  rw [hp] at e1 e2 hm
  rw [hq] at e1 e3
  have hq2 : q ≤ 16384 := by omega
  generalize rObjects c f = N at *
  generalize left c f = l at *
  have HE := Lib.hid e1
  clear e1 hp hq
  go_enter Tryz.func52, Tryz.ntmps52
  go_wp2_with fail
  refine co.mono ?_
  rintro e w1 ⟨rfl, n1, rfl⟩
  go_wp2
  go_ret
  refine ⟨?_, _, rfl⟩
  have : (q : Int) - p = l := by have := HE.out; omega
  rw [this]
  rfl
theorem fine_at {c : Nat} (h : c < 64) : fineF c (cFrames c) = true ∧ ∀ f, 1 ≤ f → f ≤ 4 → f < cFrames c → fineF c f = false :=
  ⟨(fine_all ⟨c, h⟩).1, fun f h1 h4 hlt => by
    have := (fine_all ⟨c, h⟩).2 ⟨f - 1, by omega⟩ (by dsimp only; omega)
    dsimp only at this
    rwa [show f - 1 + 1 = f by omega] at this⟩
def fineK (c f k : Nat) : Bool := (List.range k).all fun g => decide (left c f * (g + 1) ≤ left c (g + 1) * f)
theorem fineK_succ (c f k : Nat) : fineK c f (k + 1) = (fineK c f k && decide (left c f * (k + 1) ≤ left c (k + 1) * f)) := by
  unfold fineK
  rw [List.range_succ, List.all_append]
  simp
set_option maxRecDepth 100000 in
set_option maxHeartbeats 1000000 in
theorem r15Frames (c : Nat) (h : c < 64) : Calls Tryz.prog 16 #[.int .i64 c] w (Quiet w (.int .i64 (cFrames c : Nat))) := by
  have hF := fine_at h
  have hb := cFrames_bd c
  obtain ⟨F, hFc⟩ : ∃ F, cFrames c = F := ⟨_, rfl⟩
  rw [hFc] at hF hb ⊢
  have HF := Lib.hid hF
  clear hF hFc
  obtain ⟨hb1, hb4⟩ := hb
  have CL := Lib.hid fun (w' : World) (f : Nat) (hf : f ≤ 4) => r15Left (w := w') c f h hf
  have hl : ∀ f, left c f < 4096 := fun f => Nat.lt_of_lt_of_le (Nat.mod_lt _ (by omega)) (by omega)
  have HL := Lib.hid hl
  clear hl
  go_enter Tryz.func16, Tryz.ntmps16
  go_wp2_with fail
  go_loopw [3] (fun i wr => ∃ f m : Nat, 1 ≤ f ∧ f ≤ F ∧ i = .int .i64 (f : Nat) ∧ wr = w.drewN m) (fun i _ => 5 - (intOf i).toNat)
  case atStart => exact ⟨1, 0, by omega, by omega, rfl, rfl⟩
  case round =>
    obtain ⟨f, m, hf1, hf4, rfl, rfl⟩ := hrel
    have hf5 : f ≤ 4 := by omega
    have hfi : (f : Int) ≤ 4 := by omega
    have hdf : decide ((f : Int) ≤ 4) = true := decide_eq_true hfi
    go_wp2_with fail
    go_loopw [4, 5] (fun b i wr => ∃ k m : Nat, k ≤ 4 ∧ i = .int .i64 ((k : Int) + 1) ∧ b = .bool (fineK c f k) ∧ wr = w.drewN m) (fun _ i _ => 6 - (intOf i).toNat)
    case atStart => exact ⟨0, m, by omega, rfl, rfl, rfl⟩
    case round =>
      obtain ⟨k, m', hk, rfl, rfl, rfl⟩ := hrel
      by_cases hlt : k < 4
      · have C1 := Lib.hid fun w' => CL.out w' (k + 1) (by omega)
        have C2 := Lib.hid fun w' => CL.out w' f hf5
        have hl1 := HL.out (k + 1)
        have hl2 := HL.out f
        have HS := Lib.hid (fineK_succ c f k)
        have e1 : ((k + 1 : Nat) : Int) = (k : Int) + 1 := by omega
        rw [e1] at C1
        clear HF
        generalize fineK c f k = fk at *
        generalize left c (k + 1) = x at *
        generalize left c f = y at *
        have b1 : x * f ≤ 4096 * 4 := Nat.mul_le_mul (by omega) (by omega)
        have b2 : y * (k + 1) ≤ 4096 * 5 := Nat.mul_le_mul (by omega) (by omega)
        have f1 : (x : Int) * f = ((x * f : Nat) : Int) := by simp
        have f2 : (y : Int) * ((k : Int) + 1) = ((y * (k + 1) : Nat) : Int) := by simp
        generalize x * f = p at *
        generalize y * (k + 1) = q at *
        by_cases hpq : p < q
        · have HS2 : Hid (fineK c f (k + 1) = false) := Lib.hid (by rw [HS.out, decide_eq_false (by omega), Bool.and_false])
          clear HS
          go_wp2_with fail
          refine (C1.out _).mono ?_
          rintro e w1 ⟨rfl, n2, rfl⟩
          go_wp2_with fail
          refine (C2.out _).mono ?_
          rintro e w1 ⟨rfl, n3, rfl⟩
          go_wp2
          go_roundw
          case rel => exact ⟨k + 1, _, by omega, by go_num, by rw [HS2.out], rfl⟩
          case measure => simp [intOf]; omega
        · have HS2 : Hid (fineK c f (k + 1) = fk) := Lib.hid (by rw [HS.out, decide_eq_true (by omega), Bool.and_true])
          have hqp : q ≤ p := by omega
          clear HS hpq
          go_wp2_with fail
          refine (C1.out _).mono ?_
          rintro e w1 ⟨rfl, n2, rfl⟩
          go_wp2_with fail
          refine (C2.out _).mono ?_
          rintro e w1 ⟨rfl, n3, rfl⟩
          go_wp2
          go_roundw
          case rel => exact ⟨k + 1, _, by omega, by go_num, by rw [HS2.out], rfl⟩
          case measure => simp [intOf]; omega
      · obtain rfl : k = 4 := by omega
        by_cases hfc : f = F
        · have hfk : fineK c f 4 = true := by rw [hfc]; exact HF.out.1
          rw [hfk]
          clear hfk
          have HFC := Lib.hid hfc
          clear hfc
          go_wp2_with fail
          go_ret
          exact ⟨by rw [HFC.out]; rfl, _, rfl⟩
        · have hfk : fineK c f 4 = false := HF.out.2 f hf1 hf5 (by omega)
          rw [hfk]
          clear hfk
          go_wp2_with fail
          go_roundw
          case rel => exact ⟨f + 1, _, by omega, by omega, by go_num, rfl⟩
          case measure => simp [intOf]; omega
end
end Go.Proofs.YtheblkofemobdaaGreat

/-
  Contracts of the reference of layer 18: Of, Best.
-/
namespace Go.Proofs.YtheblkofemobdaaGreat
open Go.RowKit

abbrev T18 := Nat × Nat × Nat
def tCells (t : T18) : List Value := [.int .i64 t.1, .int .i64 t.2.1, .int .i64 t.2.2]
theorem tCells_len : ∀ t, (tCells t).length = 3 := fun _ => rfl
def third (u m k : Nat) : Nat := (if 1 ≤ k ∧ m < 3 * u then 1 else 0) + (if 2 ≤ k ∧ 2 * m < 3 * u then 1 else 0)
def r18of (u m : Nat) : Nat := if m < 1 ∨ m ≤ u then 4 else if u < 1 then 0 else 1 + third u m 2
theorem third_le (u m k : Nat) : third u m k ≤ 2 := by unfold third; split <;> split <;> omega
theorem r18of_full {u m : Nat} : r18of u m = 4 ↔ m ≤ u := by
  have := third_le u m 2
  unfold r18of
  by_cases h : m < 1 ∨ m ≤ u
  · rw [if_pos h]; omega
  · rw [if_neg h]; split <;> omega
section
variable {w : World}
set_option maxRecDepth 100000 in
theorem r18Of (u m : Nat) (hm : m ≤ 1000000) (hu : u ≤ 1000000) : Calls Tryz.prog 85 #[.int .i64 u, .int .i64 m] w (Quiet w (.int .i64 (r18of u m : Nat))) := by
  by_cases h1 : m < 1
  · have HR : Hid (r18of u m = 4) := Lib.hid (by unfold r18of; rw [if_pos (.inl h1)])
    go_enter Tryz.func85, Tryz.ntmps85
    go_wp2_with fail
    go_ret
    exact ⟨by rw [HR.out]; rfl, 0, rfl⟩
  · by_cases h2 : m ≤ u
    · have HR : Hid (r18of u m = 4) := Lib.hid (by unfold r18of; rw [if_pos (.inr h2)])
      have h3 : (m : Int) ≤ u := by omega
      have h1' : ¬ (m : Int) < 1 := by omega
      go_enter Tryz.func85, Tryz.ntmps85
      go_wp2_with fail
      go_ret
      exact ⟨by rw [HR.out]; rfl, 0, rfl⟩
    · by_cases h0 : u < 1
      · have HR : Hid (r18of u m = 0) := Lib.hid (by unfold r18of; rw [if_neg (by omega), if_pos h0])
        have h1' : ¬ (m : Int) < 1 := by omega
        have h3 : ¬ (m : Int) ≤ u := by omega
        go_enter Tryz.func85, Tryz.ntmps85
        go_wp2_with fail
        go_ret
        exact ⟨by rw [HR.out]; rfl, 0, rfl⟩
      · have HR : Hid (r18of u m = 1 + third u m 2) := Lib.hid (by unfold r18of; rw [if_neg (by omega), if_neg h0])
        have h1' : ¬ (m : Int) < 1 := by omega
        have h3 : ¬ (m : Int) ≤ u := by omega
        have h0' : ¬ (u : Int) < 1 := by omega
        go_enter Tryz.func85, Tryz.ntmps85
        go_wp2_with fail
        go_loopw [5, 6] (fun t i wr => ∃ k : Nat, k ≤ 2 ∧ i = .int .i64 (k : Nat) ∧ t = .int .i64 (third u m k : Nat) ∧ wr = w) (fun _ i _ => 3 - (intOf i).toNat)
        case atStart => exact ⟨0, by omega, rfl, by unfold third; simp, rfl⟩
        case round =>
          obtain ⟨k, hk, rfl, rfl, rfl⟩ := hrel
          have ht := third_le u m k
          by_cases hlt : k < 2
          · have hk2 : k = 0 ∨ k = 1 := by omega
            by_cases hc : (k + 1) * m < 3 * u
            · have HS : Hid (third u m (k + 1) = third u m k + 1) := Lib.hid (by rcases hk2 with rfl | rfl <;> simp only [third] <;> (repeat' split) <;> omega)
              have e1 : ((k : Int) + 1) * m < 3 * u := by rcases hk2 with rfl | rfl <;> omega
              have e2 : ((k : Int) + 1) * m ≤ 2000000 := by rcases hk2 with rfl | rfl <;> omega
              have e3 : 0 ≤ ((k : Int) + 1) * m := by rcases hk2 with rfl | rfl <;> omega
              generalize third u m k = t at *
              clear hc hk2
              generalize hp : ((k : Int) + 1) * m = p at *
              go_wp2_with fail
              go_roundw
              case rel => exact ⟨k + 1, by omega, by go_num, by rw [HS.out]; go_num, trivial⟩
              case measure => simp [intOf]; omega
            · have HS : Hid (third u m (k + 1) = third u m k) := Lib.hid (by rcases hk2 with rfl | rfl <;> simp only [third] <;> (repeat' split) <;> omega)
              have e1 : ¬ ((k : Int) + 1) * m < 3 * u := by rcases hk2 with rfl | rfl <;> omega
              have e2 : ((k : Int) + 1) * m ≤ 2000000 := by rcases hk2 with rfl | rfl <;> omega
              have e3 : 0 ≤ ((k : Int) + 1) * m := by rcases hk2 with rfl | rfl <;> omega
              generalize third u m k = t at *
              clear hc hk2
              generalize hp : ((k : Int) + 1) * m = p at *
              go_wp2_with fail
              go_roundw
              case rel => exact ⟨k + 1, by omega, by go_num, by rw [HS.out], trivial⟩
              case measure => simp [intOf]; omega
          · obtain rfl : k = 2 := by omega
            generalize third u m 2 = t at *
            go_wp2_with fail
            go_ret
            exact ⟨by rw [HR.out]; go_num, 0, rfl⟩
end
def bestInt (x : Option Nat) : Int := match x with | none => -1 | some n => (n : Int)
section
variable {e : Env} {w : World} {R : List HP}
set_option maxRecDepth 100000 in
set_option maxHeartbeats 1000000 in
theorem r18Best (H : Holds e w R) (T : List T18) (B : Bk) (v : Value) (hr : ∀ w', Holds e w' R → Reads w' v 3 T.length (T.flatMap tCells)) (hl : T.length ≤ 1000000) (hB : ∀ t ∈ T, B t.1 = some (t.2.1, t.2.2) ∧ t.2.1 ≤ t.2.2 ∧ t.2.2 ≤ 1000000 ∧ t.1 ≤ 1000000) (hasc : (T.map (·.1)).Pairwise (· < ·)) :
    Calls Tryz.prog 51 #[v] w (Ret e (.int .i64 (bestInt (bestL B (T.map (·.1))))) R) := by
  obtain ⟨va, vc, rfl⟩ := (hr w H).shape
  have HR := Lib.hid hr
  have HBB := Lib.hid hB
  have HAS := Lib.hid hasc
  clear hr hB hasc
  go_enter Tryz.func51, Tryz.ntmps51
  go_wp2_with fail
  go_loopw [3, 4] (fun b i wr => ∃ k : Nat, k ≤ T.length ∧ i = .int .i64 (k : Nat) ∧ Holds e wr R ∧ Hid ((b = .int .i64 (-1) ∧ bestL B ((T.take k).map (·.1)) = none) ∨ ∃ (j : Nat) (t : T18), j < k ∧ T[j]? = some t ∧ b = .int .i64 (j : Nat) ∧ bestL B ((T.take k).map (·.1)) = some t.1)) (fun _ i _ => T.length - (intOf i).toNat)
  case atStart => exact ⟨0, by omega, rfl, H, Lib.hid (.inl ⟨rfl, rfl⟩)⟩
  case round =>
    obtain ⟨k, hk, rfl, HX, HREL⟩ := hrel
    clear H
    by_cases hlt : k < T.length
    · obtain ⟨⟨n, u, m⟩, ht⟩ : ∃ t, T[k]? = some t := ⟨_, List.getElem?_eq_getElem hlt⟩
      obtain ⟨hBt, hum, hm, hn6⟩ := HBB.out _ (List.mem_of_getElem? ht)
      dsimp only at hBt hum hm hn6
      obtain ⟨g, o, rfl, _⟩ := (HR.out _ HX).at (by omega)
      have HCE := Lib.hid fun (w' : World) (i : Nat) (t : T18) (h : Holds e w' R) (hi : T[i]? = some t) => (⟨rowf_cell tCells 3 tCells_len (HR.out _ h) hi (j := 0) rfl, rowf_cell tCells 3 tCells_len (HR.out _ h) hi (j := 1) rfl, rowf_cell tCells 3 tCells_len (HR.out _ h) hi (j := 2) rfl⟩ : w'.cell? ⟨g, o + i * 3, none⟩ = some (.int .i64 (t.1 : Int)) ∧ w'.cell? ⟨g, o + i * 3 + 1, none⟩ = some (.int .i64 (t.2.1 : Int)) ∧ w'.cell? ⟨g, o + i * 3 + 2, none⟩ = some (.int .i64 (t.2.2 : Int)))
      have HT := Lib.hid ht
      have HTK : Hid (bestL B ((T.take (k + 1)).map (·.1)) = better B (bestL B ((T.take k).map (·.1))) n) := Lib.hid (by rw [List.take_add_one, ht, List.map_append]; exact bestL_snoc _ _ _)
      have CO := Lib.hid fun (w' : World) (h : Holds e w' R) => retQ (r18Of (w := w') u m hm (by omega)) h
      have HFULL := Lib.hid (r18of_full (u := u) (m := m))
      obtain ⟨q0, q1, q2⟩ := HCE.out _ _ _ HX ht
      dsimp only at q0 q1 q2
      have HD := HX.drawn (wr.drawn + 1)
      have hki : (k : Int) < T.length := by omega
      obtain ⟨og, hog⟩ : ∃ og, r18of u m = og := ⟨_, rfl⟩
      rw [hog] at CO HFULL
      clear hog ht
      by_cases hf : m ≤ u
      · obtain rfl : og = 4 := HFULL.out.2 hf
        have HBT : Hid (∀ acc, better B acc n = acc) := Lib.hid fun acc => by unfold better; rw [hBt]; exact if_neg (by dsimp only; omega)
        clear hBt hf HFULL
        go_wp2_with fail
        first | go_region_held3 (fun w' => w'.cell? ⟨g, o + k * 3 + 1, none⟩ = some (.int .i64 (u : Int)) ∧ w'.cell? ⟨g, o + k * 3 + 2, none⟩ = some (.int .i64 (m : Int)))
          (exact (HCE.out _ _ _ (by assumption) HT.out).2)
          (first | (go_at_call 85; refine (CO.out _ (by assumption)).mono ?_; rintro e w4 ⟨rfl, HN⟩)) | fail
        all_goals
          go_wp2_with fail
          go_roundw
          case rel => exact ⟨k + 1, by omega, by go_num, HN, Lib.hid (by rw [HTK.out, HBT.out]; exact HREL.out.imp id fun ⟨j, t, h1, h2⟩ => ⟨j, t, by omega, h2⟩)⟩
          case measure => simp [intOf]; omega
      · have hog4 : ((og : Int) == 4) = false := by
          have : og ≠ 4 := fun h => hf (HFULL.out.1 h)
          simp; omega
        have hlt2 : u < m := by omega
        clear HFULL hf
        rcases HREL.out with ⟨rfl, hacc⟩ | ⟨j, ⟨na, ua, ma⟩, hjk, hj, rfl, hacc⟩
        · have HBT : Hid (bestL B ((T.take (k + 1)).map (·.1)) = some n) := Lib.hid (by rw [HTK.out, hacc]; unfold better; rw [hBt]; exact if_pos hlt2)
          clear hBt hacc HTK HREL
          go_wp2_with fail
          first | go_region_held3 (fun w' => w'.cell? ⟨g, o + k * 3 + 1, none⟩ = some (.int .i64 (u : Int)) ∧ w'.cell? ⟨g, o + k * 3 + 2, none⟩ = some (.int .i64 (m : Int)))
            (exact (HCE.out _ _ _ (by assumption) HT.out).2)
            (first | (go_at_call 85; refine (CO.out _ (by assumption)).mono ?_; rintro e w4 ⟨rfl, HN⟩)) | fail
          all_goals
            go_wp2_with fail
            go_roundw
            case rel => exact ⟨k + 1, by omega, by go_num, HN, Lib.hid (.inr ⟨k, (n, u, m), by omega, HT.out, rfl, HBT.out⟩)⟩
            case measure => simp [intOf]; omega
        · obtain ⟨hBa, hua, hma, hna⟩ := HBB.out _ (List.mem_of_getElem? hj)
          dsimp only at hBa hua hma hna hacc
          have HBT : Hid (bestL B ((T.take (k + 1)).map (·.1)) = if m - u < ma - ua then some n else some na) := Lib.hid (by
            rw [HTK.out, hacc]
            have e1 : frB B n = m - u := by unfold frB; rw [hBt]
            have e2 : frB B na = ma - ua := by unfold frB; rw [hBa]
            unfold better; rw [hBt]
            exact (if_pos hlt2).trans (by dsimp only; rw [e1, e2]))
          have hnn : na < n := by
            have h1 := List.pairwise_iff_getElem.1 HAS.out j k (by rw [List.length_map]; omega) (by rw [List.length_map]; exact hlt) hjk
            simp only [List.getElem_map] at h1
            rw [(List.getElem?_eq_some_iff.1 hj).2, (List.getElem?_eq_some_iff.1 HT.out).2] at h1
            exact h1
          have hji : (j : Int) < T.length := by omega
          have HJ := Lib.hid hj
          have H1 := Lib.hid hacc
          clear hBt hacc HTK HREL hBa hj
          by_cases hcmp : m - u < ma - ua
          · have HBS : Hid (bestL B ((T.take (k + 1)).map (·.1)) = some n) := Lib.hid (by rw [HBT.out, if_pos hcmp])
            obtain ⟨x, hx⟩ : ∃ x, (m : Int) - u = x := ⟨_, rfl⟩
            obtain ⟨y, hy⟩ : ∃ y, (ma : Int) - ua = y := ⟨_, rfl⟩
            have hci : x < y := by omega
            clear hcmp HBT
            go_wp2_with fail
            first | go_region_held3 (fun w' => w'.cell? ⟨g, o + k * 3 + 1, none⟩ = some (.int .i64 (u : Int)) ∧ w'.cell? ⟨g, o + k * 3 + 2, none⟩ = some (.int .i64 (m : Int)))
              (exact (HCE.out _ _ _ (by assumption) HT.out).2)
              (first | (go_at_call 85; refine (CO.out _ (by assumption)).mono ?_; rintro e w4 ⟨rfl, HN⟩)) | fail
            all_goals
              clear HX HD q0 q1 q2
              obtain ⟨q0, q1, q2⟩ := HCE.out _ _ _ HN HT.out
              obtain ⟨p0, p1, p2⟩ := HCE.out _ _ _ HN HJ.out
              dsimp only at q0 q1 q2 p0 p1 p2
              go_wp2_with fail
              go_region
              go_wp2_with fail
              refine code_at HN.drew fun w9 hw9 => ?_
              clear HN q0 q1 q2 p0 p1 p2
              obtain ⟨q0, q1, q2⟩ := HCE.out _ _ _ hw9 HT.out
              obtain ⟨p0, p1, p2⟩ := HCE.out _ _ _ hw9 HJ.out
              dsimp only at q0 q1 q2 p0 p1 p2
              go_region
              go_wp2_with fail
              go_roundw
              case rel => exact ⟨k + 1, by omega, by go_num, hw9.drew, Lib.hid (.inr ⟨k, (n, u, m), by omega, HT.out, rfl, HBS.out⟩)⟩
              case measure => simp [intOf]; omega
          · have HBS : Hid (bestL B ((T.take (k + 1)).map (·.1)) = some na) := Lib.hid (by rw [HBT.out, if_neg hcmp])
            obtain ⟨x, hx⟩ : ∃ x, (m : Int) - u = x := ⟨_, rfl⟩
            obtain ⟨y, hy⟩ : ∃ y, (ma : Int) - ua = y := ⟨_, rfl⟩
            have hci : ¬ x < y := by omega
            have hni : ¬ (n : Int) < na := by omega
            clear hcmp HBT
            by_cases heq : x = y
            · have hqq : (x == y) = true := by simp [heq]
              go_wp2_with fail
              first | go_region_held3 (fun w' => w'.cell? ⟨g, o + k * 3 + 1, none⟩ = some (.int .i64 (u : Int)) ∧ w'.cell? ⟨g, o + k * 3 + 2, none⟩ = some (.int .i64 (m : Int)))
                (exact (HCE.out _ _ _ (by assumption) HT.out).2)
                (first | (go_at_call 85; refine (CO.out _ (by assumption)).mono ?_; rintro e w4 ⟨rfl, HN⟩)) | fail
              all_goals
                clear HX HD q0 q1 q2
                obtain ⟨q0, q1, q2⟩ := HCE.out _ _ _ HN HT.out
                obtain ⟨p0, p1, p2⟩ := HCE.out _ _ _ HN HJ.out
                dsimp only at q0 q1 q2 p0 p1 p2
                go_wp2_with fail
                go_region
                go_wp2_with fail
                refine code_at HN.drew fun w9 hw9 => ?_
                clear HN q0 q1 q2 p0 p1 p2
                obtain ⟨q0, q1, q2⟩ := HCE.out _ _ _ hw9 HT.out
                obtain ⟨p0, p1, p2⟩ := HCE.out _ _ _ hw9 HJ.out
                dsimp only at q0 q1 q2 p0 p1 p2
                go_region
                go_wp2_with fail
                go_roundw
                case rel => exact ⟨k + 1, by omega, by go_num, hw9.drew, Lib.hid (.inr ⟨j, (na, ua, ma), by omega, HJ.out, rfl, HBS.out⟩)⟩
                case measure => simp [intOf]; omega
            · have hqq : (x == y) = false := by simp [heq]
              have hcq : decide (x < y) = false := decide_eq_false hci
              go_wp2_with fail
              first | go_region_held3 (fun w' => w'.cell? ⟨g, o + k * 3 + 1, none⟩ = some (.int .i64 (u : Int)) ∧ w'.cell? ⟨g, o + k * 3 + 2, none⟩ = some (.int .i64 (m : Int)))
                (exact (HCE.out _ _ _ (by assumption) HT.out).2)
                (first | (go_at_call 85; refine (CO.out _ (by assumption)).mono ?_; rintro e w4 ⟨rfl, HN⟩)) | fail
              all_goals
                clear HX HD q0 q1 q2
                obtain ⟨q0, q1, q2⟩ := HCE.out _ _ _ HN HT.out
                obtain ⟨p0, p1, p2⟩ := HCE.out _ _ _ HN HJ.out
                dsimp only at q0 q1 q2 p0 p1 p2
                go_wp2_with fail
                go_region
                go_wp2_with fail
                refine code_at HN.drew fun w9 hw9 => ?_
                clear HN q0 q1 q2 p0 p1 p2
                obtain ⟨q0, q1, q2⟩ := HCE.out _ _ _ hw9 HT.out
                obtain ⟨p0, p1, p2⟩ := HCE.out _ _ _ hw9 HJ.out
                dsimp only at q0 q1 q2 p0 p1 p2
                go_region
                go_wp2_with fail
                go_roundw
                case rel => exact ⟨k + 1, by omega, by go_num, hw9.drew, Lib.hid (.inr ⟨j, (na, ua, ma), by omega, HJ.out, rfl, HBS.out⟩)⟩
                case measure => simp [intOf]; omega
    · obtain rfl : k = T.length := by omega
      rw [List.take_length] at HREL
      rcases HREL.out with ⟨rfl, hacc⟩ | ⟨j, t, hjk, hj, rfl, hacc⟩
      · have HV : Hid (bestInt (bestL B (T.map (·.1))) = -1) := Lib.hid (by rw [hacc]; rfl)
        clear HREL hacc
        go_wp2_with fail
        go_ret
        exact ⟨by rw [HV.out]; rfl, HX⟩
      · have HV : Hid (bestInt (bestL B (T.map (·.1))) = (t.1 : Int)) := Lib.hid (by rw [hacc]; rfl)
        obtain ⟨g, o, rfl, _⟩ := (HR.out _ HX).at (by omega)
        have q0 : wr.cell? ⟨g, o + j * 3, none⟩ = some (.int .i64 (t.1 : Int)) := rowf_cell tCells 3 tCells_len (HR.out _ HX) hj (j := 0) rfl
        have hji : (j : Int) < T.length := by omega
        have hj0 : decide ((j : Int) < 0) = false := decide_eq_false (by omega)
        clear HREL hacc hj
        go_wp2_with fail
        go_ret
        exact ⟨by rw [HV.out]; rfl, HX⟩
end
end Go.Proofs.YtheblkofemobdaaGreat

/-
  Contracts of the reference of layer 20: At, Put, Drop, Bytes, Objects.
-/
namespace Go.Proofs.YtheblkofemobdaaGreat
open Go.RowKit

abbrev OE := Int × List UInt8
abbrev OQ := OE × Value
def oCells (q : OQ) : List Value := [.int .i64 q.1.1, q.2]
def oRow (q : OQ) : HP := bts q.2 q.1.2
theorem oCells_len : ∀ q, (oCells q).length = 2 := fun _ => rfl
/-- A slice of handles and bytes. -/
def oH (v : Value) (L : List OE) : HP := exh fun Q : List OQ => grp [pur (Q.map (·.1) = L), row v 64 2 Q.length (Q.flatMap oCells), all oRow Q]
theorem elem_o : ElemOf Tryz.prog 62 64 2 32 := ElemOf.mk (z := .agg #[.int .i64 0, .slice none 0 0]) (by kernel_rfl) (by kernel_rfl) rfl (by decide)
/-- The place of a handle; -1. -/
def atO (L : List OE) (h : Int) : Int := match L.findIdx? (fun q => q.1 == h) with
  | some i => i
  | none => -1
theorem atO_none {L : List OE} {h : Int} (hn : ∀ (k : Nat) (q : OE), L[k]? = some q → q.1 ≠ h) : atO L h = -1 := by
  have : L.findIdx? (fun q => q.1 == h) = none := by
    rw [List.findIdx?_eq_none_iff]
    intro q hq
    obtain ⟨i, hi⟩ := List.mem_iff_getElem?.1 hq
    simpa using hn i q hi
  unfold atO
  rw [this]
theorem atO_some {L : List OE} {h : Int} {k : Nat} {q : OE} (hk : L[k]? = some q) (he : q.1 = h) (hn : ∀ (j : Nat) (q : OE), j < k → L[j]? = some q → q.1 ≠ h) : atO L h = k := by
  obtain ⟨hkl, hkq⟩ := List.getElem?_eq_some_iff.1 hk
  have : L.findIdx? (fun q => q.1 == h) = some k := by
    rw [List.findIdx?_eq_some_iff_getElem]
    refine ⟨hkl, by rw [hkq]; simpa using he, fun j hj => ?_⟩
    have := hn j _ hj (List.getElem?_eq_getElem (by omega))
    simpa using this
  unfold atO
  rw [this]
theorem atO_cases (L : List OE) (h : Int) : (atO L h = -1 ∧ ∀ (k : Nat) (q : OE), L[k]? = some q → q.1 ≠ h) ∨ ∃ (k : Nat) (q : OE), L[k]? = some q ∧ atO L h = k ∧ q.1 = h := by
  unfold atO
  cases hf : L.findIdx? (fun q => q.1 == h) with
  | none =>
    left
    refine ⟨rfl, fun k q hk => ?_⟩
    have := (List.findIdx?_eq_none_iff.1 hf) q (List.mem_of_getElem? hk)
    simpa using this
  | some k =>
    right
    obtain ⟨hk, h1, _⟩ := List.findIdx?_eq_some_iff_getElem.1 hf
    exact ⟨k, L[k], List.getElem?_eq_getElem hk, rfl, by simpa using h1⟩

section
variable {e : Env} {w : World} {R : List HP}
theorem o_shape {v : Value} {L : List OE} (H : Holds e w (oH v L :: R)) : ∃ a c, v = .slice a L.length c := by
  obtain ⟨Q, h⟩ := Holds.exE H
  have h2 := h.ungrp
  have hQ := h2.purE
  obtain ⟨a, c, h3⟩ := row_shape (show Holds e w (row v 64 2 Q.length (Q.flatMap oCells) :: _ ++ R) from h2.drop)
  exact ⟨a, c, by rw [h3, ← hQ, List.length_map]⟩
theorem o_nil (H : Holds e w R) : Holds e w (oH (.slice none 0 0) [] :: R) :=
  Holds.mkExh [] (Holds.mkGrp (L := [_, _, _]) (Holds.mkPur rfl (row.nil 64 2 (Holds.allNil (f := oRow) H))))
theorem o_open {v : Value} {L : List OE} (H : Holds e w (oH v L :: R)) : ∃ Q : List OQ, Q.map (·.1) = L ∧ Holds e w (row v 64 2 Q.length (Q.flatMap oCells) :: all oRow Q :: R) := by
  obtain ⟨Q, h⟩ := Holds.exE H
  have h2 := h.ungrp
  exact ⟨Q, h2.purE, h2.drop⟩
theorem o_close {v : Value} {L : List OE} {Q : List OQ} (hQ : Q.map (·.1) = L) (H : Holds e w (row v 64 2 Q.length (Q.flatMap oCells) :: all oRow Q :: R)) : Holds e w (oH v L :: R) :=
  Holds.mkExh Q (Holds.mkGrp (L := [_, _, _]) (Holds.mkPur hQ H))
/-- One of them in hand. -/
theorem o_at {v : Value} {L : List OE} {k : Nat} {q : OE} (hk : L[k]? = some q) (H : Holds e w (oH v L :: R)) : ∃ g o c vb, v = .slice (some ⟨g, o, none⟩) L.length c ∧ w.cell? ⟨g, o + k * 2, none⟩ = some (.int .i64 q.1) ∧ w.cell? ⟨g, o + k * 2 + 1, none⟩ = some vb ∧ RdB w vb q.2 := by
  obtain ⟨Q, hQ, h⟩ := o_open H
  have hql : Q.length = L.length := by rw [← hQ, List.length_map]
  obtain ⟨q', hq'⟩ : ∃ q', Q[k]? = some q' := ⟨_, List.getElem?_eq_getElem (by have := (List.getElem?_eq_some_iff.1 hk).1; omega)⟩
  have h1 : q = q'.1 := by rw [← hQ, List.getElem?_map, hq'] at hk; cases hk; rfl
  obtain ⟨a, c, rfl⟩ := row_shape h
  obtain ⟨g, o, rfl, _⟩ := (row.reads h).at (by have := (List.getElem?_eq_some_iff.1 hq').1; omega)
  refine ⟨g, o, c, q'.2, by rw [hql], ?_, rowf_cell oCells 2 oCells_len (row.reads h) hq' (j := 1) rfl, ?_⟩
  · rw [h1]; exact rowf_cell oCells 2 oCells_len (row.reads h) hq' (j := 0) rfl
  · rw [h1]
    exact bts.reads (Holds.focus (f := oRow) hq' h.swap)

set_option maxHeartbeats 400000 in
theorem r20AtQ (L : List OE) (v : Value) (x : Int) (hb : L.length ≤ 1000000) (H : Holds e w (oH v L :: R)) : Calls Tryz.prog 64 #[v, .int .i64 x] w (Quiet w (.int .i64 (atO L x))) := by
  obtain ⟨va, vc, rfl⟩ := o_shape H
  go_enter Tryz.func64, Tryz.ntmps64
  go_wp2_with fail
  go_loopw [5] (fun i wr => ∃ k : Nat, k ≤ L.length ∧ i = .int .i64 (k : Nat) ∧ Hid (∀ (j : Nat) (q : OE), j < k → L[j]? = some q → q.1 ≠ x) ∧ ∃ m, wr = w.drewN m) (fun i _ => L.length - (intOf i).toNat)
  case atStart => exact ⟨0, by omega, rfl, Lib.hid fun j q h => absurd h (by omega), 0, rfl⟩
  case round =>
    obtain ⟨k, hk, rfl, HN, m, rfl⟩ := hrel
    have HX := H.drewN m
    clear H
    by_cases hlt : k < L.length
    · obtain ⟨q, hq⟩ : ∃ q, L[k]? = some q := ⟨_, List.getElem?_eq_getElem hlt⟩
      obtain ⟨g, o, c, vb, hv, q0, q1, _⟩ := o_at hq HX
      cases hv
      have hki : (k : Int) < L.length := by omega
      by_cases hqx : q.1 = x
      · have HV := Lib.hid (atO_some hq hqx HN.out)
        have hq' : (q.1 == x) = true := by simp [hqx]
        clear hqx q1
        generalize q.1 = y at *
        go_wp2_with fail
        go_ret
        exact ⟨by rw [HV.out]; rfl, _, rfl⟩
      · have HN2 : Hid (∀ (j : Nat) (q : OE), j < k + 1 → L[j]? = some q → q.1 ≠ x) := Lib.hid fun j q' hj hj' => by
          by_cases e : j = k
          · subst e; rw [hq] at hj'; cases hj'; exact hqx
          · exact HN.out j q' (by omega) hj'
        have hq' : (q.1 == x) = false := by simp [hqx]
        clear hqx q1
        generalize q.1 = y at *
        go_wp2_with fail
        go_roundw
        case rel => exact ⟨k + 1, by omega, by go_num, HN2, _, rfl⟩
        case measure => simp [intOf]; omega
    · have HV := Lib.hid (atO_none (L := L) (h := x) fun j q hj => HN.out j q (by have := (List.getElem?_eq_some_iff.1 hj).1; omega) hj)
      have hki : ¬ (k : Int) < L.length := by omega
      go_wp2_with fail
      go_ret
      exact ⟨by rw [HV.out]; rfl, _, rfl⟩

theorem r20At (L : List OE) (v : Value) (x : Int) (hb : L.length ≤ 1000000) (H : Holds e w (oH v L :: R)) : Calls Tryz.prog 64 #[v, .int .i64 x] w (Ret e (.int .i64 (atO L x)) (oH v L :: R)) := retQ (r20AtQ L v x hb H) H

def bytesO (L : List OE) : Nat := (L.map fun q => q.2.length).sum
theorem bytesO_le {L : List OE} (h : ∀ q ∈ L, q.2.length ≤ 4096) : bytesO L ≤ 4096 * L.length := by
  induction L with
  | nil => exact Nat.le_refl _
  | cons p L ih =>
    have h1 := h p (by simp)
    have h2 := ih fun q hq => h q (by simp [hq])
    simp only [bytesO, List.map_cons, List.sum_cons, List.length_cons] at h2 ⊢
    omega
set_option maxHeartbeats 400000 in
theorem r20Bytes (L : List OE) (v : Value) (hb : L.length ≤ 1000000) (hB : ∀ q ∈ L, q.2.length ≤ 4096) (H : Holds e w (oH v L :: R)) : Calls Tryz.prog 65 #[v] w (Ret e (.int .i64 (bytesO L)) (oH v L :: R)) := by
  obtain ⟨va, vc, rfl⟩ := o_shape H
  have HB := Lib.hid hB
  clear hB
  go_enter Tryz.func65, Tryz.ntmps65
  go_wp2_with fail
  go_loopw [3, 4] (fun n i wr => ∃ k : Nat, k ≤ L.length ∧ i = .int .i64 (k : Nat) ∧ n = .int .i64 (bytesO (L.take k)) ∧ Holds e wr (oH (.slice va L.length vc) L :: R)) (fun _ i _ => L.length - (intOf i).toNat)
  case atStart => exact ⟨0, by omega, rfl, rfl, H⟩
  case round =>
    obtain ⟨k, hk, rfl, rfl, HX⟩ := hrel
    clear H
    by_cases hlt : k < L.length
    · obtain ⟨q, hq⟩ : ∃ q, L[k]? = some q := ⟨_, List.getElem?_eq_getElem hlt⟩
      obtain ⟨g, o, c, vb, hv, q0, q1, hrd⟩ := o_at hq HX
      obtain ⟨ba, bc, rfl⟩ := hrd.shape
      cases hv
      have hki : (k : Int) < L.length := by omega
      have HS : Hid (bytesO (L.take (k + 1)) = bytesO (L.take k) + q.2.length) := Lib.hid (by rw [List.take_add_one, hq]; simp [bytesO])
      have b1 : q.2.length ≤ 4096 := HB.out q (List.mem_of_getElem? hq)
      have b2 := bytesO_le (L := L.take k) fun q hq => HB.out q (List.mem_of_mem_take hq)
      rw [List.length_take] at b2
      have b3 : bytesO (L.take k) ≤ 4096 * 1000000 := by omega
      clear b2 hrd q0 hq
      generalize bytesO (L.take k) = n at *
      generalize q.2.length = m at *
      go_wp2_with fail
      go_roundw
      case rel => exact ⟨k + 1, by omega, by go_num, by rw [HS.out]; go_num, HX⟩
      case measure => simp [intOf]; omega
    · have hki : ¬ (k : Int) < L.length := by omega
      obtain rfl : k = L.length := by omega
      rw [List.take_length]
      go_wp2_with fail
      go_ret
      exact ⟨rfl, HX⟩
def objectsO (L : List OE) (c : Nat) : Nat := (L.map fun q => if (q.2.length - 1) / 64 = c then 1 else 0).sum
theorem objectsO_le (L : List OE) (c : Nat) : objectsO L c ≤ L.length := by
  induction L with
  | nil => exact Nat.le_refl _
  | cons p L ih =>
    simp only [objectsO, List.map_cons, List.sum_cons, List.length_cons] at ih ⊢
    split <;> omega
set_option maxHeartbeats 400000 in
theorem r20Objects (L : List OE) (v : Value) (c0 : Nat) (hb : L.length ≤ 1000000) (hB : ∀ q ∈ L, 1 ≤ q.2.length ∧ q.2.length ≤ 4096) (H : Holds e w (oH v L :: R)) : Calls Tryz.prog 96 #[v, .int .i64 c0] w (Ret e (.int .i64 (objectsO L c0)) (oH v L :: R)) := by
  obtain ⟨va, vc, rfl⟩ := o_shape H
  have HB := Lib.hid hB
  clear hB
  go_enter Tryz.func96, Tryz.ntmps96
  go_wp2_with fail
  go_loopw [5, 6] (fun n i wr => ∃ k : Nat, k ≤ L.length ∧ i = .int .i64 (k : Nat) ∧ n = .int .i64 (objectsO (L.take k) c0) ∧ Holds e wr (oH (.slice va L.length vc) L :: R)) (fun _ i _ => L.length - (intOf i).toNat)
  case atStart => exact ⟨0, by omega, rfl, rfl, H⟩
  case round =>
    obtain ⟨k, hk, rfl, rfl, HX⟩ := hrel
    clear H
    by_cases hlt : k < L.length
    · obtain ⟨q, hq⟩ : ∃ q, L[k]? = some q := ⟨_, List.getElem?_eq_getElem hlt⟩
      obtain ⟨g, o, c, vb, hv, q0, q1, hrd⟩ := o_at hq HX
      obtain ⟨ba, bc, rfl⟩ := hrd.shape
      cases hv
      have hki : (k : Int) < L.length := by omega
      have HS : Hid (objectsO (L.take (k + 1)) c0 = objectsO (L.take k) c0 + if (q.2.length - 1) / 64 = c0 then 1 else 0) := Lib.hid (by rw [List.take_add_one, hq]; simp [objectsO])
      obtain ⟨b0, b1⟩ := HB.out q (List.mem_of_getElem? hq)
      have b2 := objectsO_le (L.take k) c0
      rw [List.length_take] at b2
      have b3 : objectsO (L.take k) c0 ≤ 1000000 := by omega
      clear b2 hrd q0 hq
      generalize objectsO (L.take k) c0 = n at *
      generalize q.2.length = m at *
      have e1 : ((m : Int) - 1).tdiv 64 = (((m - 1) / 64 : Nat) : Int) := by
        rw [Int.tdiv_eq_ediv_of_nonneg (by omega)]; omega
      by_cases hc : (m - 1) / 64 = c0
      · have HS2 := Lib.hid (HS.out.trans (by rw [if_pos hc]))
        have hcc : ((((m - 1) / 64 : Nat) : Int) == (c0 : Int)) = true := by simp [hc]
        have hce : ((((m : Int) - 1) / 64) == (c0 : Int)) = true := by simp; omega
        clear HS hc
        go_wp2_with fail
        go_roundw
        case rel => exact ⟨k + 1, by omega, by go_num, by rw [HS2.out]; go_num, HX⟩
        case measure => simp [intOf]; omega
      · have HS2 := Lib.hid (HS.out.trans (by rw [if_neg hc]))
        have hcc : ((((m - 1) / 64 : Nat) : Int) == (c0 : Int)) = false := by simp; omega
        have hce : ((((m : Int) - 1) / 64) == (c0 : Int)) = false := by simp; omega
        clear HS hc
        go_wp2_with fail
        go_roundw
        case rel => exact ⟨k + 1, by omega, by go_num, by rw [HS2.out]; go_num, HX⟩
        case measure => simp [intOf]; omega
    · have hki : ¬ (k : Int) < L.length := by omega
      obtain rfl : k = L.length := by omega
      rw [List.take_length]
      go_wp2_with fail
      go_ret
      exact ⟨rfl, HX⟩
end
end Go.Proofs.YtheblkofemobdaaGreat

/-
  Contracts of the reference of layer 20: Put, Drop.
-/
namespace Go.Proofs.YtheblkofemobdaaGreat
open Go.RowKit

section
variable {e : Env} {w : World} {R : List HP}
theorem oCells_one (Q : List OQ) (hQ : ∀ q ∈ Q, q.2.oneCell' = true) : ∀ u ∈ Q.flatMap oCells, u.oneCell' = true := by
  intro u hu
  obtain ⟨q, hq, hu⟩ := List.mem_flatMap.1 hu
  simp only [oCells, List.mem_cons, List.not_mem_nil, or_false] at hu
  rcases hu with rfl | rfl
  · rfl
  · exact hQ q hq
theorem o_vals {Q : List OQ} (H : Holds e w (all oRow Q :: R)) : ∀ q ∈ Q, q.2.oneCell' = true := by
  intro q hq
  obtain ⟨i, hi⟩ := List.mem_iff_getElem?.1 hq
  obtain ⟨a, c, h⟩ := (bts.reads (Holds.focus (f := oRow) hi H)).shape
  rw [h]; rfl
set_option maxHeartbeats 1000000 in
theorem r20Put (L : List OE) (v : Value) (x : Int) (vb : Value) (d : List UInt8) (hb : L.length ≤ 1000000) (hdl : d.length ≤ 1000000) (hd : ∀ w', Holds e w' R → RdB w' vb d) (H : Holds e w (oH v L :: R)) :
    Calls Tryz.prog 36 #[v, .int .i64 x, vb] w (RetEx e (fun v : Value => v) (fun v => oH v (L ++ [(x, d)]) :: R)) := by
  obtain ⟨Q, hQ, h⟩ := o_open H
  have hql : Q.length = L.length := by rw [← hQ, List.length_map]
  have hQ1 := oCells_one Q (o_vals h.swap)
  obtain ⟨a, c, rfl⟩ := row_shape h
  obtain ⟨ba, bc, rfl⟩ := (hd w h.drop.drop).shape
  have HQ := Lib.hid hQ
  have hq6 : Q.length ≤ 1000000 := by omega
  have HD := Lib.hid hd
  clear hQ hql H hd
  go_enter Tryz.func36, Tryz.ntmps36
  go_wp2_with (at_builtin; refine wpList_append_sl rfl _ _ _ rfl 64 2 32 elem_o _ 0 [] rfl (row.made (h.alloc _) (Nat.le_refl _) (by decide) rfl rfl) _ Q.length (Q.flatMap oCells) rfl (row.reads (h.alloc _).drop) hQ1 ?_ ?_ ?_)
  · unfold maxLen; omega
  · omega
  intro v3 w3 H3
  try rw [Nat.zero_add, List.nil_append] at H3
  clear h
  go_wp2_with (at_builtin; refine wpList_append_sl rfl _ _ _ rfl 5 1 1 elem_u8 _ 0 [] rfl (row.made (H3.alloc _) (Nat.le_refl _) (by decide) rfl rfl) _ d.length (u8v d) rfl (HD.out _ (H3.alloc _).drop.drop.drop.drop) (u8v_one d) ?_ ?_ ?_)
  · unfold maxLen; omega
  · omega
  intro v4 w4 H4
  try rw [Nat.zero_add, List.nil_append] at H4
  obtain ⟨a4, c4, rfl⟩ := row_shape H4
  obtain ⟨a3, c3, rfl⟩ := row_shape H4.swap
  clear H3
  go_wp2_with (at_builtin; refine wpList_append_sl rfl _ _ _ rfl 64 2 32 elem_o _ Q.length (Q.flatMap oCells) rfl ((H4.alloc _).p2) (.slice (some ⟨w4.heap.size, 0, none⟩) 1 1) 1 (oCells ((x, d), .slice a4 d.length c4)) rfl (reads_lits w4 (oCells ((x, d), .slice a4 d.length c4)) 64) (fun u hu => by simp [oCells] at hu; rcases hu with rfl | rfl <;> rfl) ?_ ?_ ?_)
  · unfold maxLen; omega
  · omega
  intro v5 w5 H5
  have g1 : Holds e w5 (oRow ((x, d), .slice a4 d.length c4) :: all oRow Q :: row v5 64 2 (Q.length + 1) (Q.flatMap oCells ++ oCells ((x, d), .slice a4 d.length c4)) :: R) := H5.d1.d2.q2
  have g2 := (Holds.allSnoc (f := oRow) (x := ((x, d), .slice a4 d.length c4)) g1).swap
  have e1 : Q.flatMap oCells ++ oCells ((x, d), .slice a4 d.length c4) = (Q ++ [((x, d), Value.slice a4 d.length c4)]).flatMap oCells := by simp
  have e2 : Q.length + 1 = (Q ++ [((x, d), Value.slice a4 d.length c4)]).length := by simp
  rw [e1, e2] at g2
  have g3 := Lib.hid (o_close (L := L ++ [(x, d)]) (by rw [List.map_append, HQ.out]; rfl) g2)
  clear g1 g2 e1 e2 H5 H4
  go_wp2_with fail
  go_ret
  exact ⟨_, rfl, g3.out⟩
theorem r20Drop_no (L : List OE) (v : Value) (x : Int) (hb : L.length ≤ 1000000) (hn : atO L x = -1) (H : Holds e w (oH v L :: R)) :
    Calls Tryz.prog 30 #[v, .int .i64 x] w (Ret e (.tuple #[v, .bool false]) (oH v L :: R)) := by
  have CA := r20At L v x hb H
  rw [hn] at CA
  clear H hn
  go_enter Tryz.func30, Tryz.ntmps30
  go_wp2_with fail
  refine CA.mono ?_
  rintro en w1 ⟨rfl, H1⟩
  go_wp2_with fail
  go_ret2
  exact ⟨rfl, H1⟩
theorem eraseIdx_map {α β : Type} (f : α → β) : ∀ (l : List α) (k : Nat), (l.eraseIdx k).map f = (l.map f).eraseIdx k
  | [], _ => rfl
  | a :: l, 0 => rfl
  | a :: l, k + 1 => by simp [List.eraseIdx_cons_succ, eraseIdx_map f l k]
set_option maxHeartbeats 1000000 in
theorem r20Drop_yes (L : List OE) (v : Value) (x : Int) (hb : L.length ≤ 1000000) {k : Nat} (hkl : k < L.length) (hn : atO L x = k) (H : Holds e w (oH v L :: R)) :
    Calls Tryz.prog 30 #[v, .int .i64 x] w (RetEx e (fun v : Value => .tuple #[v, .bool true]) (fun v => oH v (L.eraseIdx k) :: R)) := by
  obtain ⟨Q, hQ, h⟩ := o_open H
  have hql : Q.length = L.length := by rw [← hQ, List.length_map]
  have hQ1 := oCells_one Q (o_vals h.swap)
  obtain ⟨a, c, rfl⟩ := row_shape h
  obtain ⟨g, o, rfl, _⟩ := (row.reads h).at (by omega)
  have hcap : Q.length ≤ c := by
    rcases (row.reads h).2 with ⟨h, h'⟩ | ⟨a', c', h, h', _⟩
    · cases h
    · cases h; exact h'
  have CA := Lib.hid (retQ (r20AtQ L (.slice (some ⟨g, o, none⟩) Q.length c) x hb H) h)
  rw [hn] at CA
  have hkq : k < Q.length := by omega
  have HQK := Lib.hid (List.getElem?_eq_getElem hkq)
  have HQT := Lib.hid fun u hu => oCells_one (Q.take k) (fun q hq => o_vals h.swap q (List.mem_of_mem_take hq)) u hu
  have HQD := Lib.hid fun u hu => oCells_one (Q.drop (k + 1)) (fun q hq => o_vals h.swap q (List.mem_of_mem_drop hq)) u hu
  have HLE : Hid (k + (Q.length - (k + 1)) = (Q.eraseIdx k).length) := Lib.hid (by rw [List.length_eraseIdx, if_pos hkq]; omega)
  have HER : Hid ((Q.eraseIdx k).map (·.1) = L.eraseIdx k) := Lib.hid (by rw [eraseIdx_map, hQ])
  have hq6 : Q.length ≤ 1000000 := by omega
  have hki : (k : Int) < Q.length := by omega
  have hk0 : decide ((k : Int) < 0) = false := decide_eq_false (by omega)
  have f3 : k + 1 ≤ Q.length := by omega
  have hs1 : (k : Int) + 1 ≤ (Q.length : Int) := by omega
  have hs2 : (0 : Int) ≤ (k : Int) + 1 := by omega
  have hs3 : ((k : Int) + 1).toNat = k + 1 := by omega
  clear hQ hql hQ1 H h hn hkl
  by_cases hc : c = k + 1
  · subst hc
    have hx0 : Q.length - (k + 1) = 0 := by omega
    have hxd : Q.drop (k + 1) = [] := List.drop_of_length_le (by omega)
    have HX0 := Lib.hid hx0
    have HXD := Lib.hid hxd
    clear hx0 hxd
    go_enter Tryz.func30, Tryz.ntmps30
    go_wp2_with fail
    refine CA.out.mono ?_
    rintro en w1 ⟨rfl, H1⟩
    clear CA
    go_wp2_with (at_builtin; refine wpList_append_sl rfl _ _ _ rfl 64 2 32 elem_o _ 0 [] rfl (row.made (H1.alloc _) (Nat.le_refl _) (by decide) rfl rfl) (.slice (some ⟨g, o, none⟩) k _) k ((Q.take k).flatMap oCells) rfl ?_ HQT.out ?_ ?_ ?_)
    · rw [flat_take oCells 2 oCells_len]; exact reads_take (row.reads (H1.alloc _).drop) (by omega)
    · unfold maxLen; omega
    · omega
    intro v3 w3 H3
    try rw [Nat.zero_add, List.nil_append] at H3
    clear H1
    go_wp2_with (at_builtin; refine wpList_append_sl rfl _ _ _ rfl 64 2 32 elem_o v3 k ((Q.take k).flatMap oCells) rfl H3 (.slice (some ⟨g, o, none⟩) (Q.length - (k + 1)) 0) (Q.length - (k + 1)) ((Q.drop (k + 1)).flatMap oCells) ((by rw [HX0.out]; rfl)) ((by rw [HX0.out, HXD.out]; exact reads_none' _ _ _ _)) HQD.out ?_ ?_ ?_)
    · unfold maxLen; omega
    · omega
    intro v5 w5 H5
    have g1 : Holds e w5 (all oRow Q :: row v5 64 2 (k + (Q.length - (k + 1))) ((Q.take k).flatMap oCells ++ (Q.drop (k + 1)).flatMap oCells) :: R) := by first | exact H5.d1.swap | (rw [HX0.out]; exact H5.d1.swap)
    have g2 := (Holds.focus (f := oRow) HQK.out g1).drop.swap
    rw [← List.flatMap_append, ← (split_at HQK.out).2, HLE.out] at g2
    have g3 := Lib.hid (o_close (L := L.eraseIdx k) (Q := Q.eraseIdx k) HER.out g2)
    clear g1 g2 H5 H3
    go_wp2_with fail
    go_ret2
    exact ⟨_, rfl, g3.out⟩
  · have hck : ¬ c = k + 1 := by omega
    clear hc
    go_enter Tryz.func30, Tryz.ntmps30
    go_wp2_with fail
    refine CA.out.mono ?_
    rintro en w1 ⟨rfl, H1⟩
    clear CA
    go_wp2_with (at_builtin; refine wpList_append_sl rfl _ _ _ rfl 64 2 32 elem_o _ 0 [] rfl (row.made (H1.alloc _) (Nat.le_refl _) (by decide) rfl rfl) (.slice (some ⟨g, o, none⟩) k _) k ((Q.take k).flatMap oCells) rfl ?_ HQT.out ?_ ?_ ?_)
    · rw [flat_take oCells 2 oCells_len]; exact reads_take (row.reads (H1.alloc _).drop) (by omega)
    · unfold maxLen; omega
    · omega
    intro v3 w3 H3
    try rw [Nat.zero_add, List.nil_append] at H3
    clear H1
    go_wp2_with (at_builtin; refine wpList_append_sl rfl _ _ _ rfl 64 2 32 elem_o v3 k ((Q.take k).flatMap oCells) rfl H3 (.slice (some ⟨g, o + (k + 1) * 2, none⟩) (Q.length - (k + 1)) (c - (k + 1))) (Q.length - (k + 1)) ((Q.drop (k + 1)).flatMap oCells) (rfl) ((by rw [flat_drop oCells 2 oCells_len _ _ f3]; exact reads_drop (row.reads H3.swap) f3)) HQD.out ?_ ?_ ?_)
    · unfold maxLen; omega
    · omega
    intro v5 w5 H5
    have g1 : Holds e w5 (all oRow Q :: row v5 64 2 (k + (Q.length - (k + 1))) ((Q.take k).flatMap oCells ++ (Q.drop (k + 1)).flatMap oCells) :: R) := by first | exact H5.d1.swap | (rw [HX0.out]; exact H5.d1.swap)
    have g2 := (Holds.focus (f := oRow) HQK.out g1).drop.swap
    rw [← List.flatMap_append, ← (split_at HQK.out).2, HLE.out] at g2
    have g3 := Lib.hid (o_close (L := L.eraseIdx k) (Q := Q.eraseIdx k) HER.out g2)
    clear g1 g2 H5 H3
    go_wp2_with fail
    go_ret2
    exact ⟨_, rfl, g3.out⟩
end
end Go.Proofs.YtheblkofemobdaaGreat

/-
  gunnylaw20: the chapter's example.
-/
namespace Go.Proofs.YtheblkofemobdaaGreat
open Go.RowKit

theorem bestL_none (B : Bk) : ∀ (l : List Nat) (acc : Option Nat), l.foldl (better B) acc = none → acc = none ∧ ∀ n ∈ l, ¬ openB B n
  | [], acc, h => ⟨h, fun n hn => by cases hn⟩
  | n :: l, acc, h => by
    obtain ⟨h1, h2⟩ := bestL_none B l _ h
    unfold better at h1
    have h3 : acc = none ∧ ¬ openB B n := by
      split at h1
      · next p hp =>
        split at h1
        · next hlt =>
          split at h1
          · cases h1
          · split at h1 <;> cases h1
        · next hlt => exact ⟨h1, fun ⟨p', hp', hl⟩ => by rw [hp] at hp'; cases hp'; exact hlt hl⟩
      · next hp => exact ⟨h1, fun ⟨p', hp', hl⟩ => by rw [hp] at hp'; cases hp'⟩
    exact ⟨h3.1, fun m hm => by
      rcases List.mem_cons.1 hm with rfl | hm
      · exact h3.2
      · exact h2 m hm⟩
theorem bestB_none {B : Bk} {bs : List Int} (h : bestB B bs = none) {n : Nat} {p : Nat × Nat} (hn : n < 4096) (hp : B n = some p) (hlt : p.1 < p.2) : (n : Int) ∈ bs := by
  apply Classical.byContradiction
  intro hnb
  refine (bestL_none B _ none h).2 n ?_ ⟨p, hp, hlt⟩
  rw [bnums, List.mem_filter, List.mem_range]
  refine ⟨hn, ?_⟩
  rw [hp, decide_eq_true hnb]
  rfl
def z2000 : List UInt8 := List.replicate 2000 0
theorem z2000_len : z2000.length = 2000 := List.length_replicate
structure LivesF (a b : Nat) (M1 : RamS) (S1 : PoolS) (M2 : RamS) (S2 : PoolS) : Prop where
  e1 : PoolS.new.alloc (RamS.new 8) z2000 = (((a : Int), 0), M1, S1)
  e2 : S1.alloc M1 z2000 = (((b : Int), 0), M2, S2)
  ok1 : PoolOk M1 S1
  ok2 : PoolOk M2 S2
  ne : a ≠ b
  many : S2.tab.many = 2
  len : (sheetsOf S2.pgs 0).length = 1
  pl : S2.pgs.length ≤ 1000
theorem into_pgs {M : RamS} {S : PoolS} {n : Nat} {g : PgS} (d : List UInt8) (h : S.pgs[n]? = some (some g)) : ∃ g', (S.into M n d).2.2.pgs = S.pgs.set n (some g') := by
  unfold PoolS.into
  rw [h]
  exact ⟨_, rfl⟩
set_option maxRecDepth 100000 in
theorem lives_facts : ∃ a b M1 S1 M2 S2, LivesF a b M1 S1 M2 S2 := by
  have ok0 : PoolOk (RamS.new 8) PoolS.new := PoolOk.new (Nat.le_refl _) (by omega)
  have hb0 : bestB (PoolS.new.bks ((z2000.length - 1) / 64)) [] = none := by
    unfold bestB
    have : bnums (PoolS.new.bks ((z2000.length - 1) / 64)) [] = [] := by
      unfold bnums PoolS.new
      rw [List.filter_eq_nil_iff]
      intro x _
      simp
    rw [this]; rfl
  have hcF : cFrames 31 = 1 := by decide
  have hcO : cObjects 31 = 2 := by decide
  have h31 : (z2000.length - 1) / 64 = 31 := by rw [z2000_len]
  have hfree : (RamS.new 8).fr.free.length = 8 := rfl
  have h1 : 1 ≤ z2000.length := by rw [z2000_len]; omega
  have h2 : z2000.length ≤ 4096 := by rw [z2000_len]; omega
  have hn1 : needP PoolS.new z2000.length = 1 := by unfold needP; rw [hb0, h31, hcF]; rfl
  obtain ⟨a, A1⟩ := alloc_law ok0 h1 h2 (by decide) (by rw [hn1, hfree]; omega)
  have hp1 : ∃ g1, (PoolS.new.alloc (RamS.new 8) z2000).2.2.pgs = [some g1] := by
    have e1 : PoolS.new.alloc (RamS.new 8) z2000 = (PoolS.new.fresh (RamS.new 8) 31).2.into (PoolS.new.fresh (RamS.new 8) 31).1 (holeOf PoolS.new.pgs) z2000 := by
      unfold PoolS.alloc
      rw [if_neg (by omega), if_neg (by decide), hb0]
      dsimp only
      rw [h31, hcF, hfree, if_neg (by omega)]
    have e2 : ∀ g : PgS, (roomy ([] : Pgs)).set (holeOf ([] : Pgs)) (some g) = [some g] := fun g => rfl
    have e3 : (PoolS.new.fresh (RamS.new 8) 31).2.pgs = [some (mkPg (RamS.new 8) 31).2] := e2 _
    have e4 : holeOf PoolS.new.pgs = 0 := rfl
    rw [e1, e4]
    obtain ⟨g', hg'⟩ := into_pgs (M := (PoolS.new.fresh (RamS.new 8) 31).1) (S := (PoolS.new.fresh (RamS.new 8) 31).2) (n := 0) (g := (mkPg (RamS.new 8) 31).2) z2000 (by rw [e3]; rfl)
    exact ⟨g', by rw [hg', e3]; rfl⟩
  obtain ⟨g1, hg1⟩ := hp1
  have hq1 : PoolS.new.alloc (RamS.new 8) z2000 = ((PoolS.new.alloc (RamS.new 8) z2000).1, (PoolS.new.alloc (RamS.new 8) z2000).2.1, (PoolS.new.alloc (RamS.new 8) z2000).2.2) := rfl
  have r1 := A1.res
  have ok1 := A1.ok
  have m1 := A1.many
  have pl1 := A1.place
  have a1 := A1.h1
  have a2 := A1.h2
  generalize (PoolS.new.alloc (RamS.new 8) z2000).2.1 = M1 at *
  generalize (PoolS.new.alloc (RamS.new 8) z2000).2.2 = S1 at *
  have m1' : S1.tab.many = 1 := m1
  have hw := ok1.tab.sum
  have hm := ok1.tab.many
  have hc1 : cnt g1.set = 1 := by
    have := hw fun _ => 1
    dsimp only at this
    rw [hg1] at this
    simp [wsum, pgUse] at this
    omega
  obtain ⟨k, hk⟩ := pl1
  have hnz : S1.tab.all a ≠ PlaceS.zero := by rw [hk]; exact place_nz _ _ h1
  obtain ⟨n, ob, ln, g, V⟩ := ok1.tab.val a a1 a2 hnz
  have hV := V.pg
  have hn0 : n = 0 ∧ g = g1 := by
    rw [hg1] at hV
    cases n with
    | zero => cases hV; exact ⟨rfl, rfl⟩
    | succ n => cases hV
  obtain ⟨rfl, rfl⟩ := hn0
  have hcls : g.cls = 31 := by
    have e := V.eq
    rw [hk] at e
    injection e with _ _ e3
    have h4 := V.cls
    have : ln = 2000 := by rw [z2000_len] at e3; omega
    rw [h4, this]
  obtain ⟨L, hI⟩ := ok1.pgs.pg 0 g hV
  have hsl : g.set.length = 2 := by rw [hI.ok.set, hcls, hcO]
  have hB1 : S1.bks ((z2000.length - 1) / 64) 0 = some (1, 2) := by
    rw [h31, ok1.bks 31 (by omega)]
    unfold bkOf
    rw [hg1]
    show (if g.cls = 31 then some (cnt g.set, g.set.length) else none) = _
    rw [if_pos hcls, hc1, hsl]
  cases hb1 : bestB (S1.bks ((z2000.length - 1) / 64)) [] with
  | none => have := bestB_none hb1 (by omega) hB1 (by decide); cases this
  | some n1 =>
    obtain ⟨g', hg', _, _, _, _⟩ := bestB_at (ok1.bks _ (by rw [h31]; omega)) ok1.len hb1
    have hn1 : n1 = 0 := by
      rw [hg1] at hg'
      cases n1 with
      | zero => rfl
      | succ n => cases hg'
    subst hn1
    obtain ⟨b, A2⟩ := alloc_law ok1 h1 h2 (by rw [m1']; decide) (by unfold needP; rw [hb1]; exact Nat.zero_le _)
    have e2 : S1.alloc M1 z2000 = S1.into M1 0 z2000 := by
      unfold PoolS.alloc
      rw [if_neg (by omega), if_neg (by rw [m1']; decide), hb1]
    obtain ⟨g2, hg2⟩ := into_pgs (M := M1) z2000 hV
    rw [← e2, hg1] at hg2
    have hg2' : (S1.alloc M1 z2000).2.2.pgs = [some g2] := hg2
    refine ⟨a, b, M1, S1, (S1.alloc M1 z2000).2.1, (S1.alloc M1 z2000).2.2, by rw [hq1, r1], by rw [← A2.res], ok1, A2.ok, ?_, by rw [A2.many, m1']; rfl, by rw [hg2']; rfl, by rw [hg2', List.length_singleton]; omega⟩
    rintro rfl
    exact hnz A2.hz
section
variable {e : Env} {w : World} {R : List HP}
theorem PoolOk.rows {M : RamS} {S : PoolS} (h : PoolOk M S) : ∀ (n : Nat) (g : PgS), S.pgs[n]? = some (some g) → g.row.length ≤ 4 := fun n g hg => let ⟨_, hI⟩ := h.pgs.pg n g hg; hI.ok.len4
theorem PoolOk.sets {M : RamS} {S : PoolS} (h : PoolOk M S) : ∀ (n : Nat) (g : PgS), S.pgs[n]? = some (some g) → g.set.length ≤ 256 := fun n g hg => let ⟨_, hI⟩ := h.pgs.pg n g hg; hI.ok.set256
theorem sh_open {v : Value} {L : List (Nat × PgS)} (H : Holds e w (shH v L :: R)) : ∃ (a : Option Addr) (c : Nat) (Q : List ShQ), v = .slice a L.length c ∧ Q.map (·.1) = L ∧ Holds e w (row (.slice a L.length c) 45 5 Q.length (Q.flatMap shCells) :: all shRow Q :: R) := by
  obtain ⟨Q, h1⟩ := Holds.exE H
  have h2 := Holds.ungrp h1
  have hQ := h2.purE
  have h3 : Holds e w (row v 45 5 Q.length (Q.flatMap shCells) :: all shRow Q :: R) := h2.drop
  obtain ⟨a, c, hv⟩ := row_shape h3
  have hl : Q.length = L.length := by rw [← hQ, List.length_map]
  rw [hl] at hv
  exact ⟨a, c, Q, hv, hQ, hv ▸ h3⟩
theorem bts_made (H : Holds e w R) (n : Nat) (hn : n ≤ maxLen) : Holds e (w.alloc (.cells (u8v (List.replicate n 0)).toArray 5)) (bts (.slice (some ⟨w.heap.size, 0, none⟩) n n) (List.replicate n 0) :: R) := by
  unfold bts
  rw [List.length_replicate]
  exact row.made (H.alloc _) (Nat.le_refl _) hn (by simp) (by rw [List.toList_toArray, Nat.mul_one, List.take_of_length_le (by simp)])
set_option maxRecDepth 100000 in
set_option maxHeartbeats 1000000 in
theorem lives20 (H : Holds e w R) : Calls Tryz.prog 8 #[] w (Ret e (.bool true) R) := by
  obtain ⟨a, b, M1, S1, M2, S2, F⟩ := lives_facts
  have hM := mk8 2000 (by omega) 2000 rfl
  have hab := F.ne
  have hl1 := F.len
  have hm2 := F.many
  have CA1 : Hid (∀ w' rb b tb v Y, Holds e w' (poolH b tb rb PoolS.new :: ramH rb (RamS.new 8) :: bts v z2000 :: Y) → Calls Tryz.prog 11 #[.pointer (some ⟨b, 0, none⟩), v] w' (Ret e (.tuple #[.int .i64 a, .int .i64 0]) (poolH b tb rb S1 :: ramH rb M1 :: bts v z2000 :: Y))) := Lib.hid fun w' rb b tb v Y h => by
    have := poAlloc h (PoolOk.new (Nat.le_refl _) (by omega)) v z2000 (fun w'' h'' => bts.reads h'') (by rw [z2000_len]; omega)
    rw [F.e1] at this
    exact this
  have CA2 : Hid (∀ w' rb pb tb v Y, Holds e w' (poolH pb tb rb S1 :: ramH rb M1 :: bts v z2000 :: Y) → Calls Tryz.prog 11 #[.pointer (some ⟨pb, 0, none⟩), v] w' (Ret e (.tuple #[.int .i64 b, .int .i64 0]) (poolH pb tb rb S2 :: ramH rb M2 :: bts v z2000 :: Y))) := Lib.hid fun w' rb pb tb v Y h => by
    have := poAlloc h F.ok1 v z2000 (fun w'' h'' => bts.reads h'') (by rw [z2000_len]; omega)
    rw [F.e2] at this
    exact this
  have CSH : Hid (∀ w' pb tb rb Y, Holds e w' (poolH pb tb rb S2 :: Y) → _) := Lib.hid fun w' pb tb rb Y h => poSheets h F.pl F.ok2.rows
  have CLN : Hid (∀ w' pb tb rb Y, Holds e w' (poolH pb tb rb S2 :: Y) → Calls Tryz.prog 22 #[.pointer (some ⟨pb, 0, none⟩)] w' (Ret e (.int .i64 2) (poolH pb tb rb S2 :: Y))) := Lib.hid fun w' pb tb rb Y h => by
    have := retQ (poLen h) h
    rw [hm2] at this
    exact this
  have hai : ((a : Int) != (b : Int)) = true := by simp; omega
  have habi : ¬ (a : Int) = (b : Int) := by omega
  clear F hab hm2
  have HZ : Hid (z2000 = List.replicate 2000 0) := Lib.hid rfl
  go_enter Tryz.func8, Tryz.ntmps8
  go_wp2_with fail
  refine (ramNew_yes H 8 (by omega) (by omega)).mono ?_
  rintro en w1 ⟨rb, rfl, H1⟩
  go_wp2_with fail
  refine (poNew H1 rb).mono ?_
  rintro en w2 ⟨⟨pb, tb⟩, rfl, H2⟩
  clear H1 H
  have H4 : Holds e _ (bts (.slice (some ⟨w2.heap.size, 0, none⟩) 2000 2000) z2000 :: _) := bts_made H2 2000 (by unfold maxLen; omega)
  have H5 := H4.q2
  clear H2 H4
  go_wp2_with fail
  refine (CA1.out _ _ _ _ _ _ H5).mono ?_
  rintro en w3 ⟨rfl, H6⟩
  have H8 : Holds e _ (bts (.slice (some ⟨w3.heap.size, 0, none⟩) 2000 2000) z2000 :: _) := bts_made H6.d2 2000 (by unfold maxLen; omega)
  have H9 := H8.q2
  clear H5 H6 H8 CA1
  go_wp2_with fail
  refine (CA2.out _ _ _ _ _ _ H9).mono ?_
  rintro en w4 ⟨rfl, HA⟩
  clear H9 CA2
  go_wp2_with fail
  refine (CSH.out _ _ _ _ _ HA).mono ?_
  rintro en w5 ⟨v, rfl, HB⟩
  obtain ⟨sa, sc, Q, rfl, _, _⟩ := sh_open HB
  rw [hl1] at *
  clear CSH HA
  have HC := HB.drop
  clear HB
  go_wp2_with fail
  refine (CLN.out _ _ _ _ _ HC).mono ?_
  rintro en w6 ⟨rfl, HD⟩
  have HE := HD.drop.drop.drop
  clear HC CLN HD
  go_wp2_with fail
  go_ret
  exact ⟨rfl, HE⟩
end
end Go.Proofs.YtheblkofemobdaaGreat

/-
  gunnylaw20: PoolNone.
-/
namespace Go.Proofs.YtheblkofemobdaaGreat
open Go.RowKit

section
variable {e : Env} {w : World} {R : List HP}
theorem poNew_nil : Calls Tryz.prog 10 #[.pointer none] w (Quiet w (.pointer none)) := by
  go_enter Tryz.func10, Tryz.ntmps10
  go_wp2_with fail
  go_ret
  exact ⟨rfl, 0, rfl⟩
theorem inb_new (x : Int) : PoolS.new.tab.inb x = false := inb_off rfl

theorem new_drop (x : Int) : PoolS.new.tab.drop x = ((PlaceS.zero, false), PoolS.new.tab) := by unfold TabS.drop; rw [inb_new]; rfl
set_option maxRecDepth 100000 in
set_option maxHeartbeats 4000000 in
theorem poolNone_any (H : Holds e w R) (h size : Int) (hs : -9223372036854775808 ≤ size ∧ size ≤ 9223372036854775807) : Calls Tryz.prog 4 #[.int .i64 h, .int .i64 size] w (Ret e (.bool true) R) := by
  have CR1 := Lib.hid fun (w' : World) (H : Holds e w' R) => poRead_nil H h
  have CW1 : Hid (∀ w', Holds e w' R → Calls Tryz.prog 19 #[.pointer none, .int .i64 h] w' (Ret e (.tuple #[.agg #[.int .i64 0, .int .i64 0, .int .i64 0], .bool false]) R)) := Lib.hid fun w' H => poWhere_nil h H
  have CS1 := Lib.hid fun (w' : World) (H : Holds e w' R) => poShift_nil H h
  have CR2 := Lib.hid fun (w' : World) b tb rb Y (H : Holds e w' (poolH b tb rb PoolS.new :: Y)) => poReadNo H h (inb_new h)
  have CF2 := Lib.hid fun (w' : World) b tb rb Y (H : Holds e w' (poolH b tb rb PoolS.new :: Y)) => poFree_no H (new_drop h) (by decide) (by decide)
  have CS2 : Hid (∀ w' b tb rb Y, Holds e w' (poolH b tb rb PoolS.new :: Y) → Calls Tryz.prog 21 #[.pointer (some ⟨b, 0, none⟩), .int .i64 h] w' (Ret e (.bool false) (poolH b tb rb PoolS.new :: Y))) := Lib.hid fun w' b tb rb Y H => poShift_no (p := PlaceS.zero) H (by unfold TabS.get; rw [inb_new]; rfl)
  have CFR : Hid (∀ w' b tb rb Y, Holds e w' (poolH b tb rb PoolS.new :: Y) → Calls Tryz.prog 24 #[.pointer (some ⟨b, 0, none⟩)] w' (Ret e (.int .i64 0) (poolH b tb rb PoolS.new :: Y))) := Lib.hid fun w' b tb rb Y H => poFrames H (Nat.zero_le _) (fun n g h => by cases h)
  obtain ⟨hs1, hs2⟩ := hs
  obtain ⟨N, hN⟩ : ∃ N : Nat, (N : Int) = max 0 (min 9000 size) := ⟨(max 0 (min 9000 size)).toNat, by omega⟩
  have hN9 : N ≤ 9000 := by omega
  have hM := mk8 N (by omega) (max 0 (min 9000 size)) hN
  by_cases h1 : size < 1 ∨ 4096 < size
  · have CA := Lib.hid fun (w' : World) a (H : Holds e w' R) => retQ (poAlloc_bad a N N (by omega) (by omega) none) H
    have h2 : ¬ (1 ≤ size ∧ size ≤ 4096) := by omega
    clear hN
    by_cases h3 : size < 1
    · clear h1 h2
      go_enter Tryz.func4, Tryz.ntmps4
      go_wp2_with fail
      refine (retQ poNew_nil H).mono ?_
      rintro en w1 ⟨rfl, H1⟩
      have H2 := (bts_made H1 N (by unfold maxLen; omega)).drop
      clear H H1
      go_wp2_with fail
      refine (CA.out _ _ H2).mono ?_
      rintro en w3 ⟨rfl, H3⟩
      clear H2 CA
      clear hM
      go_wp2_with fail
      refine (CR1.out _ H3).mono ?_
      rintro en w4 ⟨rfl, H4⟩
      clear H3 CR1
      go_wp2_with fail
      refine (CW1.out _ H4).mono ?_
      rintro en w5 ⟨rfl, H5⟩
      have H5a := H5.alloc (.cells #[.int .i64 0, .int .i64 0, .int .i64 0] 51)
      clear H4 CW1
      go_wp2_with fail
      refine (retQ (poFree_nil h) H5a).mono ?_
      rintro en w6 ⟨rfl, H6⟩
      clear H5 H5a
      go_wp2_with fail
      refine (CS1.out _ H6.drop).mono ?_
      rintro en w7 ⟨rfl, H7⟩
      clear H6
      go_wp2_with fail
      refine (retQ poLen_nil H7).mono ?_
      rintro en w8 ⟨rfl, H8⟩
      clear H7
      go_wp2_with fail
      refine (poBytes_nil H8).mono ?_
      rintro en w9 ⟨rfl, H9⟩
      clear H8
      go_wp2_with fail
      refine (poFrames_nil H9).mono ?_
      rintro en w10 ⟨rfl, H10⟩
      clear H9
      go_wp2_with fail
      refine (poObjects_nil H10 h).mono ?_
      rintro en w11 ⟨rfl, H11⟩
      clear H10
      go_wp2_with fail
      refine (retQ poSheets_nil H11).mono ?_
      rintro en w12 ⟨rfl, H12⟩
      clear H11
      go_wp2_with fail
      refine (retQ poRAM_nil H12).mono ?_
      rintro en w13 ⟨rfl, H13⟩
      clear H12
      go_wp2_with fail
      refine (ramNew_yes H13 8 (by omega) (by omega)).mono ?_
      rintro en w14 ⟨rb, rfl, H14⟩
      clear H13
      go_wp2_with fail
      refine (poNew H14 rb).mono ?_
      rintro en w15 ⟨⟨pb, tb⟩, rfl, H15⟩
      clear H14
      go_wp2_with fail
      refine (CR2.out _ _ _ _ _ H15).mono ?_
      rintro en w16 ⟨rfl, H16⟩
      clear H15 CR2
      go_wp2_with fail
      refine (CF2.out _ _ _ _ _ H16).mono ?_
      rintro en w17 ⟨rfl, H17⟩
      clear H16 CF2
      go_wp2_with fail
      refine (CS2.out _ _ _ _ _ H17).mono ?_
      rintro en w18 ⟨rfl, H18⟩
      clear H17 CS2
      go_wp2_with fail
      refine (CFR.out _ _ _ _ _ H18).mono ?_
      rintro en w19 ⟨rfl, H19⟩
      clear H18 CFR
      go_wp2_with fail
      refine (lives20 H19.drop.drop).mono ?_
      rintro en w20 ⟨rfl, H20⟩
      clear H19
      go_wp2_with fail
      go_ret
      exact ⟨rfl, H20⟩
    · have h4 : (4096 : Int) < size := by omega
      clear h1 h2
      go_enter Tryz.func4, Tryz.ntmps4
      go_wp2_with fail
      refine (retQ poNew_nil H).mono ?_
      rintro en w1 ⟨rfl, H1⟩
      have H2 := (bts_made H1 N (by unfold maxLen; omega)).drop
      clear H H1
      go_wp2_with fail
      refine (CA.out _ _ H2).mono ?_
      rintro en w3 ⟨rfl, H3⟩
      clear H2 CA
      clear hM
      go_wp2_with fail
      refine (CR1.out _ H3).mono ?_
      rintro en w4 ⟨rfl, H4⟩
      clear H3 CR1
      go_wp2_with fail
      refine (CW1.out _ H4).mono ?_
      rintro en w5 ⟨rfl, H5⟩
      have H5a := H5.alloc (.cells #[.int .i64 0, .int .i64 0, .int .i64 0] 51)
      clear H4 CW1
      go_wp2_with fail
      refine (retQ (poFree_nil h) H5a).mono ?_
      rintro en w6 ⟨rfl, H6⟩
      clear H5 H5a
      go_wp2_with fail
      refine (CS1.out _ H6.drop).mono ?_
      rintro en w7 ⟨rfl, H7⟩
      clear H6
      go_wp2_with fail
      refine (retQ poLen_nil H7).mono ?_
      rintro en w8 ⟨rfl, H8⟩
      clear H7
      go_wp2_with fail
      refine (poBytes_nil H8).mono ?_
      rintro en w9 ⟨rfl, H9⟩
      clear H8
      go_wp2_with fail
      refine (poFrames_nil H9).mono ?_
      rintro en w10 ⟨rfl, H10⟩
      clear H9
      go_wp2_with fail
      refine (poObjects_nil H10 h).mono ?_
      rintro en w11 ⟨rfl, H11⟩
      clear H10
      go_wp2_with fail
      refine (retQ poSheets_nil H11).mono ?_
      rintro en w12 ⟨rfl, H12⟩
      clear H11
      go_wp2_with fail
      refine (retQ poRAM_nil H12).mono ?_
      rintro en w13 ⟨rfl, H13⟩
      clear H12
      go_wp2_with fail
      refine (ramNew_yes H13 8 (by omega) (by omega)).mono ?_
      rintro en w14 ⟨rb, rfl, H14⟩
      clear H13
      go_wp2_with fail
      refine (poNew H14 rb).mono ?_
      rintro en w15 ⟨⟨pb, tb⟩, rfl, H15⟩
      clear H14
      go_wp2_with fail
      refine (CR2.out _ _ _ _ _ H15).mono ?_
      rintro en w16 ⟨rfl, H16⟩
      clear H15 CR2
      go_wp2_with fail
      refine (CF2.out _ _ _ _ _ H16).mono ?_
      rintro en w17 ⟨rfl, H17⟩
      clear H16 CF2
      go_wp2_with fail
      refine (CS2.out _ _ _ _ _ H17).mono ?_
      rintro en w18 ⟨rfl, H18⟩
      clear H17 CS2
      go_wp2_with fail
      refine (CFR.out _ _ _ _ _ H18).mono ?_
      rintro en w19 ⟨rfl, H19⟩
      clear H18 CFR
      go_wp2_with fail
      refine (lives20 H19.drop.drop).mono ?_
      rintro en w20 ⟨rfl, H20⟩
      clear H19
      go_wp2_with fail
      go_ret
      exact ⟨rfl, H20⟩
  · have CA := Lib.hid fun (w' : World) a (H : Holds e w' R) => retQ (poAlloc_nil a N N (by omega) (by omega)) H
    have h3 : ¬ size < 1 := by omega
    have h4 : ¬ (4096 : Int) < size := by omega
    clear hN
    clear h1
    go_enter Tryz.func4, Tryz.ntmps4
    go_wp2_with fail
    refine (retQ poNew_nil H).mono ?_
    rintro en w1 ⟨rfl, H1⟩
    have H2 := (bts_made H1 N (by unfold maxLen; omega)).drop
    clear H H1
    go_wp2_with fail
    refine (CA.out _ _ H2).mono ?_
    rintro en w3 ⟨rfl, H3⟩
    clear H2 CA
    clear hM
    go_wp2_with fail
    refine (CR1.out _ H3).mono ?_
    rintro en w4 ⟨rfl, H4⟩
    clear H3 CR1
    go_wp2_with fail
    refine (CW1.out _ H4).mono ?_
    rintro en w5 ⟨rfl, H5⟩
    have H5a := H5.alloc (.cells #[.int .i64 0, .int .i64 0, .int .i64 0] 51)
    clear H4 CW1
    go_wp2_with fail
    refine (retQ (poFree_nil h) H5a).mono ?_
    rintro en w6 ⟨rfl, H6⟩
    clear H5 H5a
    go_wp2_with fail
    refine (CS1.out _ H6.drop).mono ?_
    rintro en w7 ⟨rfl, H7⟩
    clear H6
    go_wp2_with fail
    refine (retQ poLen_nil H7).mono ?_
    rintro en w8 ⟨rfl, H8⟩
    clear H7
    go_wp2_with fail
    refine (poBytes_nil H8).mono ?_
    rintro en w9 ⟨rfl, H9⟩
    clear H8
    go_wp2_with fail
    refine (poFrames_nil H9).mono ?_
    rintro en w10 ⟨rfl, H10⟩
    clear H9
    go_wp2_with fail
    refine (poObjects_nil H10 h).mono ?_
    rintro en w11 ⟨rfl, H11⟩
    clear H10
    go_wp2_with fail
    refine (retQ poSheets_nil H11).mono ?_
    rintro en w12 ⟨rfl, H12⟩
    clear H11
    go_wp2_with fail
    refine (retQ poRAM_nil H12).mono ?_
    rintro en w13 ⟨rfl, H13⟩
    clear H12
    go_wp2_with fail
    refine (ramNew_yes H13 8 (by omega) (by omega)).mono ?_
    rintro en w14 ⟨rb, rfl, H14⟩
    clear H13
    go_wp2_with fail
    refine (poNew H14 rb).mono ?_
    rintro en w15 ⟨⟨pb, tb⟩, rfl, H15⟩
    clear H14
    go_wp2_with fail
    refine (CR2.out _ _ _ _ _ H15).mono ?_
    rintro en w16 ⟨rfl, H16⟩
    clear H15 CR2
    go_wp2_with fail
    refine (CF2.out _ _ _ _ _ H16).mono ?_
    rintro en w17 ⟨rfl, H17⟩
    clear H16 CF2
    go_wp2_with fail
    refine (CS2.out _ _ _ _ _ H17).mono ?_
    rintro en w18 ⟨rfl, H18⟩
    clear H17 CS2
    go_wp2_with fail
    refine (CFR.out _ _ _ _ _ H18).mono ?_
    rintro en w19 ⟨rfl, H19⟩
    clear H18 CFR
    go_wp2_with fail
    refine (lives20 H19.drop.drop).mono ?_
    rintro en w20 ⟨rfl, H20⟩
    clear H19
    go_wp2_with fail
    go_ret
    exact ⟨rfl, H20⟩
end
theorem poolNone_arg (W : World) (v0 v1 : Value) (a0 : Arg Tryz.prog W 3 v0) (a1 : Arg Tryz.prog W 3 v1) :
    Calls Tryz.prog 4 #[v0, v1] W fun e w' => e = .returned (.bool true) ∧ Below W.heap.size W w' := by
  obtain ⟨x, rfl, _⟩ := a0.int Tryz.underlying3
  obtain ⟨y, rfl, hy⟩ := a1.int Tryz.underlying3
  exact (poolNone_any (Holds.start W) x y (wf_i64 hy)).mono fun en w' ⟨r1, r2⟩ => ⟨r1, r2.below rfl rfl rfl⟩
end Go.Proofs.YtheblkofemobdaaGreat

/-
  gunnylaw20: deeds, great, Bytes, best.
-/
namespace Go.Proofs.YtheblkofemobdaaGreat
open Go.RowKit

structure Deed20 where
  kind : Int
  n : Int
  size : Int
  seed : Int
def I64 (z : Int) : Prop := -9223372036854775808 ≤ z ∧ z ≤ 9223372036854775807
structure DeedAt (xs : List Value) (i : Nat) (d : Deed20) : Prop where
  c0 : xs[i * 4]? = some (.int .i64 d.kind)
  c1 : xs[i * 4 + 1]? = some (.int .i64 d.n)
  c2 : xs[i * 4 + 2]? = some (.int .i64 d.size)
  c3 : xs[i * 4 + 3]? = some (.int .u8 d.seed)
  b0 : I64 d.kind
  b1 : I64 d.n
  b2 : I64 d.size
  b3 : 0 ≤ d.seed ∧ d.seed ≤ 255
set_option maxRecDepth 100000 in
theorem deed20_of {W : World} {xs : List Value} {i k : Nat} (h : Flat Tryz.prog W (k + 3) 33 ((xs.drop (i * 4)).take 4)) : ∃ d, DeedAt xs i d := by
  obtain ⟨hl, hf⟩ := h.struct Tryz.underlying33
  have hi1 : Tryz.prog.cellsOf 3 = 1 := by kernel_rfl
  have hu1 : Tryz.prog.cellsOf 5 = 1 := by kernel_rfl
  have f0 : Flat Tryz.prog W (k + 2) 3 ((((xs.drop (i * 4)).take 4).drop 0).take (Tryz.prog.cellsOf 3)) := hf 0 _ rfl
  have f1 : Flat Tryz.prog W (k + 2) 3 ((((xs.drop (i * 4)).take 4).drop 1).take (Tryz.prog.cellsOf 3)) := hf 1 _ rfl
  have f2 : Flat Tryz.prog W (k + 2) 3 ((((xs.drop (i * 4)).take 4).drop 2).take (Tryz.prog.cellsOf 3)) := hf 2 _ rfl
  have f3 : Flat Tryz.prog W (k + 2) 5 ((((xs.drop (i * 4)).take 4).drop 3).take (Tryz.prog.cellsOf 5)) := hf 3 _ rfl
  rw [hi1] at f0 f1 f2
  rw [hu1] at f3
  obtain ⟨a, ha, wa⟩ := f0.int Tryz.underlying3
  obtain ⟨b, hb, wb⟩ := f1.int Tryz.underlying3
  obtain ⟨c, hc, wc⟩ := f2.int Tryz.underlying3
  obtain ⟨d, hd, wd⟩ := f3.int Tryz.underlying5
  have key : ∀ (j : Nat) (v : Value), j < 4 → (((xs.drop (i * 4)).take 4).drop j).take 1 = [v] → xs[i * 4 + j]? = some v := by
    intro j v hj h
    have := congrArg (·[0]?) h
    simpa [List.getElem?_take, List.getElem?_drop, hj] using this
  refine ⟨⟨a, b, c, d⟩, key 0 _ (by omega) ha, key 1 _ (by omega) hb, key 2 _ (by omega) hc, key 3 _ (by omega) hd, wf_i64 wa, wf_i64 wb, wf_i64 wc, ?_⟩
  have h1 : (0 : Int) ≤ d ∧ d ≤ 255 := by
    unfold Lit.wf at wd
    have h2 : IntKind.u8.min ≤ d ∧ d ≤ IntKind.u8.max := by simpa using wd
    have h3 : IntKind.u8.min = 0 := by decide
    have h4 : IntKind.u8.max = 255 := by decide
    rw [h3, h4] at h2
    exact h2
  exact h1
section
variable {e : Env} {w : World} {R : List HP}
theorem deed_cells {n c : Nat} {a : Option Addr} {xs : List Value} {i : Nat} {d : Deed20} (hr : Reads w (.slice a n c) 4 n xs) (hi : i < n) (hd : DeedAt xs i d) :
    ∃ g o, a = some ⟨g, o, none⟩ ∧ w.cell? ⟨g, o + i * 4, none⟩ = some (.int .i64 d.kind) ∧ w.cell? ⟨g, o + i * 4 + 1, none⟩ = some (.int .i64 d.n) ∧ w.cell? ⟨g, o + i * 4 + 2, none⟩ = some (.int .i64 d.size) ∧ w.cell? ⟨g, o + i * 4 + 3, none⟩ = some (.int .u8 d.seed) := by
  obtain ⟨g, o, hb, hc⟩ := hr.at (by omega)
  exact ⟨g, o, hb, hc _ _ hd.c0, by rw [Nat.add_assoc]; exact hc _ _ hd.c1, by rw [Nat.add_assoc]; exact hc _ _ hd.c2, by rw [Nat.add_assoc]; exact hc _ _ hd.c3⟩
set_option maxRecDepth 100000 in
set_option maxHeartbeats 400000 in
theorem great20 (H : Holds e w R) (v : Value) (n : Nat) (xs : List Value) (hn : n ≤ 4611686018427387904) (hr : ∀ w', Holds e w' R → Reads w' v 4 n xs) (hD : ∀ i, i < n → ∃ d, DeedAt xs i d) :
    Calls Tryz.prog 7 #[v] w (RetEx e (fun b : Bool => .bool b) (fun b => pur (b = false → n ≤ 60) :: R)) := by
  obtain ⟨a, c, rfl⟩ := (hr w H).shape
  have HR := Lib.hid hr
  have HDD := Lib.hid hD
  clear hr hD
  go_enter Tryz.func7, Tryz.ntmps7
  go_wp2_with fail
  go_loopw [3, 4] (fun s i wr => ∃ (k : Nat) (x : Int), k ≤ n ∧ k ≤ 200 ∧ i = .int .i64 (k : Nat) ∧ s = .int .i64 x ∧ 0 ≤ x ∧ x ≤ 9000 * k ∧ Holds e wr R) (fun _ i _ => n - (intOf i).toNat)
  case atStart => exact ⟨0, 0, by omega, by omega, rfl, rfl, by omega, by omega, H⟩
  case round =>
    obtain ⟨k, x, hk, hk2, rfl, rfl, hx0, hx9, HX⟩ := hrel
    clear H
    have hx6 : x ≤ 1800000 := by omega
    by_cases hlt : k < n ∧ k < 200
    · obtain ⟨hl1, hl2⟩ := hlt
      obtain ⟨d, hd⟩ := HDD.out k hl1
      have hb := hd.b2
      obtain ⟨g, o, rfl, q0, q1, q2, q3⟩ := deed_cells (HR.out _ HX) hl1 hd
      clear q0 q1 q3 hd
      obtain ⟨hb1, hb2⟩ := hb
      have hki : (k : Int) < n := by omega
      generalize d.size = z at *
      have m1 : max 0 z ≥ 0 := by omega
      obtain ⟨y, hy⟩ : ∃ y, min 9000 (max 0 z) = y := ⟨_, rfl⟩
      have hy1 : 0 ≤ y ∧ y ≤ 9000 := by omega
      go_wp2_with fail
      go_roundw
      case rel => exact ⟨k + 1, x + y, by omega, by omega, by go_num, rfl, by omega, by omega, HX⟩
      case measure => simp [intOf]; omega
    · by_cases h1 : k < n
      · have hk0 : decide ((k : Int) < 200) = false := decide_eq_false (by omega)
        have hki : (k : Int) < n := by omega
        have h60 : (60 : Int) < n := by omega
        go_wp2_with fail
        go_ret
        exact ⟨true, rfl, Holds.mkPur (fun h => by cases h) HX⟩
      · have hki : ¬ (k : Int) < n := by omega
        clear hlt
        by_cases h60 : (60 : Int) < n
        · go_wp2_with fail
          go_ret
          exact ⟨true, rfl, Holds.mkPur (fun h => by cases h) HX⟩
        · go_wp2_with fail
          go_ret
          exact ⟨_, rfl, Holds.mkPur (fun _ => by omega) HX⟩
theorem u8_of {z : Int} (h0 : 0 ≤ z) (h1 : z ≤ 255) : ∃ x : UInt8, Value.int .u8 z = .int .u8 (x.toNat : Int) := ⟨UInt8.ofNat z.toNat, by
  congr 1
  rw [UInt8.toNat_ofNat']
  omega⟩
theorem u8v_set (d : List UInt8) (i : Nat) (x : UInt8) : u8v (d.set i x) = (u8v d).set i (.int .u8 (x.toNat : Int)) := by simp [u8v, List.map_set]
set_option maxRecDepth 100000 in
set_option maxHeartbeats 400000 in
theorem bytes20 (H : Holds e w R) (n : Nat) (hn : n ≤ 9000) (sd : Int) (hs : 0 ≤ sd ∧ sd ≤ 255) :
    Calls Tryz.prog 12 #[.int .i64 n, .int .u8 sd] w (RetEx e (fun p : Value × List UInt8 => p.1) (fun p => pur (p.2.length = n) :: bts p.1 p.2 :: R)) := by
  have hM := mk8 n (by omega) n rfl
  obtain ⟨hs1, hs2⟩ := hs
  have H1 := bts_made H n (by unfold maxLen; omega)
  obtain ⟨g, hg⟩ : ∃ g, w.heap.size = g := ⟨_, rfl⟩
  rw [hg] at H1
  go_enter Tryz.func12, Tryz.ntmps12
  go_wp2_with fail
  go_loopw [6] (fun i wr => ∃ (k : Nat) (d : List UInt8), k ≤ n ∧ i = .int .i64 (k : Nat) ∧ Hid (d.length = n) ∧ Holds e wr (bts (.slice (some ⟨g, 0, none⟩) n n) d :: R)) (fun i _ => n - (intOf i).toNat)
  case atStart => exact ⟨0, _, by omega, rfl, Lib.hid (List.length_replicate), H1⟩
  case round =>
    obtain ⟨k, d, hk, rfl, hdl, HX⟩ := hrel
    clear H H1
    by_cases hlt : k < n
    · have hki : (k : Int) < n := by omega
      have HY : Holds e wr (row (.slice (some ⟨g, 0, none⟩) n n) 5 1 n (u8v d) :: R) := by
        have h := HX
        unfold bts at h
        rwa [hdl.out] at h
      have q0 := (row.reads HY)
      obtain ⟨_, _, hb, hc⟩ := q0.at (by omega)
      cases hb
      have q1 := hc k _ (u8v_get (by rw [hdl.out]; exact hlt))
      rw [Nat.zero_add] at q1
      have q2 : wr.frozen? ⟨g, k, none⟩ = false := by
        rcases (row.open HY).2 with ⟨h0, _⟩ | ⟨g1, cap, cur, h0, _, _, _, _, h5⟩
        · cases h0
        · cases h0; exact h5.frozen _
      have HS := Lib.hid fun v => row.set (i := k) HY v
      have hk9 : k ≤ 9000 := by omega
      clear hc q0 HX
      have e0 : 0 + k = k := Nat.zero_add k
      rw [e0] at HS
      go_wp2_with fail
      go_roundw
      case rel =>
        obtain ⟨x, hx⟩ := u8_of (z := (sd + (k : Int) * 7 + (k : Int) / 256) % 256) (by omega) (by omega)
        refine ⟨k + 1, d.set k x, by omega, by go_num, Lib.hid (by rw [List.length_set]; exact hdl.out), ?_⟩
        unfold bts
        rw [List.length_set, hdl.out, u8v_set, ← hx]
        exact HS.out _
      case measure => simp [intOf]; omega
    · have hki : ¬ (k : Int) < n := by omega
      have HZ := Holds.mkPur hdl.out HX
      go_wp2_with fail
      go_ret
      exact ⟨(_, d), rfl, HZ⟩

/-- The frames of a RAM in hand. -/
theorem ram_fr {rb : Nat} {M : RamS} (H : Holds e w (ramH rb M :: R)) : ∃ (f : Nat) (X : HP), w.cell? ⟨rb, 0, none⟩ = some (.pointer (some ⟨f, 0, none⟩)) ∧ Holds e w (frH f M.fr :: X :: R) ∧ ∀ w', Holds e w' (frH f M.fr :: X :: R) → Holds e w' (ramH rb M :: R) := by
  obtain ⟨f, g, hO, h⟩ := ram_open H
  refine ⟨f, grp [pts rb (.cells #[.pointer (some ⟨f, 0, none⟩), .slice (some ⟨g, 0, none⟩) (M.fr.owner.length * 4096) (M.fr.owner.length * 4096), .int .i64 (wrap64 M.touches)] 49 (0, 0)), pts g (.cells (u8v M.mem.flatten).toArray 5 (0, 0))], h.cells 0, h.swap.cons fun _ s => Sat.append.1 s, fun w' h' => ?_⟩
  have h2 : Holds e w' (frH f M.fr :: pts rb _ :: pts g _ :: R) := h'.cons fun _ s => Sat.append.2 s
  exact ram_close hO rfl h2.swap
/-- RAM.Count of one owner. -/
theorem ramCount {f : Nat} {F : FrS} (H : Holds e w (frH f F :: R)) (o : Int) (v : Value) (hr : ∀ n, Reads (w.drewN n) v 1 1 [.int .i64 o]) : Calls Tryz.prog 18 #[.pointer (some ⟨f, 0, none⟩), v] w (Ret e (.int .i64 (F.count [o])) (frH f F :: R)) :=
  frCount H [o] v (by simp) hr

/-- The zspages of a class, but for one, as the reference of layer 18 has them. -/
def t18 (L : List (Nat × PgS)) (c but : Int) : List T18 := (L.filter fun p => decide ((p.2.cls : Int) = c ∧ (p.1 : Int) ≠ but)).map fun p => (p.1, cnt p.2.set, p.2.set.length)
theorem t18_snoc (L : List (Nat × PgS)) (p : Nat × PgS) (c but : Int) : t18 (L ++ [p]) c but = t18 L c but ++ if (p.2.cls : Int) = c ∧ (p.1 : Int) ≠ but then [(p.1, cnt p.2.set, p.2.set.length)] else [] := by
  unfold t18
  rw [List.filter_append, List.map_append]
  congr 1
  by_cases h : (p.2.cls : Int) = c ∧ (p.1 : Int) ≠ but
  · rw [if_pos h, List.filter_cons_of_pos (by simpa using h)]; rfl
  · rw [if_neg h, List.filter_cons_of_neg (by simpa using h)]; rfl
theorem t18_len (L : List (Nat × PgS)) (c but : Int) : (t18 L c but).length ≤ L.length := by
  unfold t18
  rw [List.length_map]
  exact List.length_filter_le _ _
end
theorem sheetsOf_eq : ∀ (l : Pgs) (n : Nat), sheetsOf l n = (List.range l.length).filterMap fun i => match l[i]? with
    | some (some g) => some (n + i, g)
    | _ => none
  | [], n => rfl
  | x :: l, n => by
    have ih := sheetsOf_eq l (n + 1)
    rw [List.length_cons, List.range_succ_eq_map, List.filterMap_cons]
    have e1 : (List.filterMap (fun i => match (x :: l)[i]? with | some (some g) => some (n + i, g) | _ => none) (List.map Nat.succ (List.range l.length))) = sheetsOf l (n + 1) := by
      rw [ih, List.filterMap_map]
      congr 1
      funext i
      simp only [Function.comp_apply, List.getElem?_cons_succ, Nat.succ_eq_add_one]
      rw [Nat.add_assoc, Nat.add_comm 1 i]
    rw [e1]
    cases x with
    | none => rfl
    | some g => rfl
theorem range_filter_lt (p : Nat → Bool) : ∀ (m n : Nat), n ≤ m → (∀ i, n ≤ i → p i = false) → (List.range m).filter p = (List.range n).filter p
  | 0, n, h, _ => by rw [Nat.le_zero.1 h]
  | m + 1, n, h, hp => by
    by_cases hn : n = m + 1
    · rw [hn]
    · rw [List.range_succ, List.filter_append, List.filter_cons_of_neg (by rw [hp m (by omega)]; decide), List.filter_nil, List.append_nil]
      exact range_filter_lt p m n (by omega) hp
theorem bnums_t18 {pgs : Pgs} (hl : pgs.length ≤ 4096) (c : Nat) (but : Int) : bnums (bkOf pgs c) [but] = (t18 (sheetsOf pgs 0) c but).map (·.1) := by
  unfold bnums t18
  rw [List.map_map, sheetsOf_eq, range_filter_lt _ 4096 pgs.length hl (fun i hi => by
    unfold bkOf
    rw [List.getElem?_eq_none hi]
    rfl)]
  generalize pgs.length = m
  induction m with
  | zero => rfl
  | succ m ih =>
    rw [List.range_succ, List.filter_append, ih, List.filterMap_append, List.filter_append, List.map_append]
    congr 1
    simp only [List.filterMap_cons, List.filterMap_nil, List.filter_cons, List.filter_nil]
    cases hx : pgs[m]? with
    | none => simp [bkOf, hx]
    | some x =>
      cases x with
      | none => simp [bkOf, hx]
      | some g =>
        by_cases hc : g.cls = c <;> by_cases hb : (m : Int) = but
        · simp [bkOf, hx, hc, hb]
        · simp [bkOf, hx, hc, hb]
        · simp [bkOf, hx, hc, hb]
        · simp [bkOf, hx, hc, hb]; omega
end Go.Proofs.YtheblkofemobdaaGreat

/-
  gunnylaw20: best.
-/
namespace Go.Proofs.YtheblkofemobdaaGreat
open Go.RowKit

theorem elem_t : ElemOf Tryz.prog 94 96 3 24 := ElemOf.mk (z := .agg #[.int .i64 0, .int .i64 0, .int .i64 0]) (by kernel_rfl) (by kernel_rfl) rfl (by decide)
theorem tCells_one (T : List T18) : ∀ u ∈ T.flatMap tCells, u.oneCell' = true := by
  intro u hu
  obtain ⟨q, _, hu⟩ := List.mem_flatMap.1 hu
  simp only [tCells, List.mem_cons, List.not_mem_nil, or_false] at hu
  rcases hu with rfl | rfl | rfl <;> rfl
theorem shCells_len : ∀ q, (shCells q).length = 5 := fun _ => rfl
section
variable {e : Env} {w : World} {R : List HP}
set_option maxRecDepth 100000 in
set_option maxHeartbeats 1000000 in
theorem best20 {v : Value} {L : List (Nat × PgS)} (H : Holds e w (shH v L :: R)) (hl : L.length ≤ 1000) (c but : Int) (B : Bk) (hB : ∀ p ∈ L, (p.2.cls : Int) = c → B p.1 = some (cnt p.2.set, p.2.set.length)) (hbd : ∀ p ∈ L, p.2.set.length ≤ 256 ∧ p.1 ≤ 1000) (hasc : (L.map (·.1)).Pairwise (· < ·)) :
    Calls Tryz.prog 15 #[v, .int .i64 c, .int .i64 but] w (Ret e (.int .i64 (bestInt (bestL B ((t18 L c but).map (·.1))))) (shH v L :: R)) := by
  obtain ⟨a, sc, Q, rfl, hQ, h⟩ := sh_open H
  have hql : Q.length = L.length := by rw [← hQ, List.length_map]
  rw [hql] at h
  have HC : Hid (∀ w', Holds e w' (row (.slice a L.length sc) 45 5 L.length (Q.flatMap shCells) :: all shRow Q :: R) → Holds e w' (shH (.slice a L.length sc) L :: R)) := Lib.hid fun w' h' => Holds.mkExh Q (Holds.mkGrp (L := [_, _, _]) (Holds.mkPur hQ (by rw [hql]; exact h')))
  have HQ := Lib.hid hQ
  have HBD := Lib.hid hbd
  have H18 : Hid (∀ (w' : World) (vt : Value), Holds e w' (row vt 96 3 (t18 L c but).length ((t18 L c but).flatMap tCells) :: row (.slice a L.length sc) 45 5 L.length (Q.flatMap shCells) :: all shRow Q :: R) → Calls Tryz.prog 51 #[vt] w' (Ret e (.int .i64 (bestInt (bestL B ((t18 L c but).map (·.1))))) (row vt 96 3 (t18 L c but).length ((t18 L c but).flatMap tCells) :: row (.slice a L.length sc) 45 5 L.length (Q.flatMap shCells) :: all shRow Q :: R))) := Lib.hid fun w' vt h' => by
    refine r18Best h' (t18 L c but) B vt (fun w'' h'' => row.reads h'') (Nat.le_trans (t18_len _ _ _) (by omega)) (fun t ht => ?_) ?_
    · unfold t18 at ht
      obtain ⟨p, hp, rfl⟩ := List.mem_map.1 ht
      obtain ⟨hpL, hpc⟩ := List.mem_filter.1 hp
      have hpc := of_decide_eq_true hpc
      obtain ⟨b1, b2⟩ := hbd p hpL
      have b3 := cnt_le p.2.set
      exact ⟨hB p hpL hpc.1, b3, by dsimp only; omega, by dsimp only; omega⟩
    · unfold t18
      rw [List.map_map]
      exact List.Pairwise.sublist (List.Sublist.map _ List.filter_sublist) hasc
  have H1 : Holds e w (row (.slice none 0 0) 96 3 (t18 (L.take 0) c but).length ((t18 (L.take 0) c but).flatMap tCells) :: row (.slice a L.length sc) 45 5 L.length (Q.flatMap shCells) :: all shRow Q :: R) := row.nil 96 3 h
  clear hQ H hB hbd hasc h
  go_enter Tryz.func15, Tryz.ntmps15
  go_wp2_with fail
  go_loopw [7, 8] (fun tv i wr => ∃ k, k ≤ L.length ∧ i = .int .i64 (k : Nat) ∧ Holds e wr (row tv 96 3 (t18 (L.take k) c but).length ((t18 (L.take k) c but).flatMap tCells) :: row (.slice a L.length sc) 45 5 L.length (Q.flatMap shCells) :: all shRow Q :: R)) (fun _ i _ => L.length - (intOf i).toNat)
  case atStart => exact ⟨0, by omega, rfl, H1⟩
  case round =>
    obtain ⟨k, hk, rfl, HX⟩ := hrel
    clear H1
    by_cases hlt : k < L.length
    · obtain ⟨q, hq⟩ : ∃ q, Q[k]? = some q := ⟨_, List.getElem?_eq_getElem (by omega)⟩
      have hLk : L[k]? = some q.1 := by rw [← HQ.out, List.getElem?_map, hq]; rfl
      obtain ⟨b1, b2⟩ := HBD.out _ (List.mem_of_getElem? hLk)
      have b3 := cnt_le q.1.2.set
      have hTS : t18 (L.take (k + 1)) c but = t18 (L.take k) c but ++ if (q.1.2.cls : Int) = c ∧ (q.1.1 : Int) ≠ but then [(q.1.1, cnt q.1.2.set, q.1.2.set.length)] else [] := by rw [List.take_add_one, hLk]; exact t18_snoc _ _ _ _
      have htl := t18_len (L.take k) c but
      rw [List.length_take] at htl
      obtain ⟨T, hT⟩ : ∃ T, t18 (L.take k) c but = T := ⟨_, rfl⟩
      rw [hT] at hTS htl HX
      clear hT
      obtain ⟨g, o, rfl, _⟩ := (row.reads HX.swap).at (by omega)
      obtain ⟨ta, tc, htv⟩ := row_shape HX
      subst htv
      have HCE := Lib.hid fun (w' : World) (Y Z : List HP) (X : HP) (h' : Holds e w' (X :: row (.slice (some ⟨g, o, none⟩) L.length sc) 45 5 L.length (Q.flatMap shCells) :: Y)) => (⟨rowf_cell shCells 5 shCells_len (row.reads h'.swap) hq (j := 0) rfl, rowf_cell shCells 5 shCells_len (row.reads h'.swap) hq (j := 1) rfl, rowf_cell shCells 5 shCells_len (row.reads h'.swap) hq (j := 2) rfl, rowf_cell shCells 5 shCells_len (row.reads h'.swap) hq (j := 3) rfl⟩ : w'.cell? ⟨g, o + k * 5, none⟩ = some (.int .i64 (q.1.1 : Int)) ∧ w'.cell? ⟨g, o + k * 5 + 1, none⟩ = some (.int .i64 (q.1.2.cls : Int)) ∧ w'.cell? ⟨g, o + k * 5 + 2, none⟩ = some (.int .i64 (cnt q.1.2.set : Int)) ∧ w'.cell? ⟨g, o + k * 5 + 3, none⟩ = some (.int .i64 (q.1.2.set.length : Int)))
      obtain ⟨q0, q1, q2, q3⟩ := HCE.out _ _ [] _ HX
      have hki : (k : Int) < L.length := by omega
      clear hq hLk
      obtain ⟨q, qv⟩ := q
      obtain ⟨pn, g0⟩ := q
      dsimp only at q0 q1 q2 q3 hTS b1 b2 b3 HCE
      by_cases hcc : (g0.cls : Int) = c
      · subst hcc
        have hce : ((g0.cls : Int) == (g0.cls : Int)) = true := by simp
        by_cases hbb : (pn : Int) = but
        · have HTS : Hid (t18 (L.take (k + 1)) g0.cls but = T) := Lib.hid (by rw [hTS, if_neg (fun h => h.2 hbb), List.append_nil])
          have hne : ((pn : Int) != but) = false := by simp [hbb]
          clear hTS hbb
          go_wp2_with fail
          go_roundw
          case rel => exact ⟨k + 1, by omega, by go_num, by rw [HTS.out]; exact HX⟩
          case measure => simp [intOf]; omega
        · have HTS : Hid (t18 (L.take (k + 1)) g0.cls but = T ++ [(pn, cnt g0.set, g0.set.length)]) := Lib.hid (by rw [hTS, if_pos ⟨rfl, hbb⟩])
          have hne : ((pn : Int) != but) = true := by simp [hbb]
          clear hTS hbb
          generalize cnt g0.set = u at *
          generalize g0.set.length = m at *
          generalize g0.cls = cl at *
          have HD := HX.drew
          have f1 : T.length + 1 ≤ maxLen := by unfold maxLen; omega
          have f2 : (T.length + 1) * 24 ≤ 140737488355328 := by omega
          go_wp2_with fail
          go_region_law (first | (refine step_append_sl rfl (.tmp 31) (.tmp 48) _ rfl 96 3 24 elem_t _ T.length (T.flatMap tCells) rfl _ 1 (tCells (pn, u, m)) rfl (fun x hx => by simp [tCells] at hx; rcases hx with rfl | rfl | rfl <;> rfl) f1 f2 (by first | exact HD | exact (HD.alloc _).swap | exact (HD.alloc _).drop) (by change Reads _ (Value.slice (some ⟨_, 0, none⟩) 1 1) _ _ _; exact reads_lits _ (tCells (pn, u, m)) _) ?_; intro v4 w4 H4))
          all_goals
            have g1 : Holds e w4 (row v4 96 3 (t18 (L.take (k + 1)) cl but).length ((t18 (L.take (k + 1)) cl but).flatMap tCells) :: row (.slice (some ⟨g, o, none⟩) L.length sc) 45 5 L.length (Q.flatMap shCells) :: all shRow Q :: R) := by
              rw [HTS.out, List.length_append, List.length_singleton, List.flatMap_append, List.flatMap_singleton]
              first | exact H4.d1 | exact H4
            have g1 := Lib.hid g1
            clear H4 HD
            go_wp2_with fail
            go_roundw
            case rel => exact ⟨k + 1, by omega, by go_num, g1.out⟩
            case measure => simp [intOf]; omega
      · have HTS : Hid (t18 (L.take (k + 1)) c but = T) := Lib.hid (by rw [hTS, if_neg (fun h => hcc h.1), List.append_nil])
        have hce : ((g0.cls : Int) == c) = false := by simp [hcc]
        clear hTS hcc
        go_wp2_with fail
        go_roundw
        case rel => exact ⟨k + 1, by omega, by go_num, by rw [HTS.out]; exact HX⟩
        case measure => simp [intOf]; omega
    · have hki : ¬ (k : Int) < L.length := by omega
      obtain rfl : k = L.length := by omega
      rw [List.take_length] at HX
      have C18 := Lib.hid (H18.out _ _ HX)
      clear HX H18
      obtain ⟨z, hz⟩ : ∃ z, bestInt (bestL B ((t18 L c but).map (·.1))) = z := ⟨_, rfl⟩
      rw [hz] at C18
      have HZ := Lib.hid hz
      clear hz
      generalize t18 L c but = T at C18
      go_wp2_with fail
      refine C18.out.mono ?_
      rintro en w1 ⟨rfl, H2⟩
      have H3 := HC.out _ H2.drop
      clear C18 H2 HC
      go_wp2_with fail
      go_ret
      exact ⟨by rw [HZ.out]; rfl, H3⟩
end
end Go.Proofs.YtheblkofemobdaaGreat

/-
  gunnylaw20: PoolBest.
-/
namespace Go.Proofs.YtheblkofemobdaaGreat
open Go.RowKit

theorem alloc_ok {M : RamS} {S : PoolS} (h : PoolOk M S) (d : List UInt8) : PoolOk (S.alloc M d).2.1 (S.alloc M d).2.2 ∧ (S.alloc M d).2.2.tab.many ≤ S.tab.many + 1 := by
  by_cases h0 : d.length < 1 ∨ 4096 < d.length
  · rw [alloc_bad h0]; exact ⟨h, by dsimp only; omega⟩
  · by_cases h1 : 512 ≤ S.tab.many ∨ M.fr.free.length < needP S d.length
    · rw [alloc_no (by omega) (by omega) h1]; exact ⟨h, by dsimp only; omega⟩
    · obtain ⟨x, A⟩ := alloc_law h (by omega : 1 ≤ d.length) (by omega) (by omega) (by omega)
      exact ⟨A.ok, by rw [A.many]; omega⟩
theorem free_ok {M : RamS} {S : PoolS} (h : PoolOk M S) (x : Int) : PoolOk (S.free1 M x).2.1 (S.free1 M x).2.2 ∧ (S.free1 M x).2.2.tab.many ≤ S.tab.many := by
  cases hx : S.tab.inb x with
  | false => rw [free_no hx]; exact ⟨h, by dsimp only; omega⟩
  | true =>
    obtain ⟨_, _, _, _, _, _, F⟩ := free_law h hx
    exact ⟨F.ok, by rw [F.many]; omega⟩
theorem bnums_neg (B : Bk) : bnums B [-1] = bnums B [] := by
  unfold bnums
  apply List.filter_congr
  intro n _
  have : ¬ (n : Int) = -1 := by omega
  simp [this]
def mexL (l : List (Nat × PgS)) (w : Nat) : Nat := l.foldl (fun w p => if p.1 = w then w + 1 else w) w
theorem mexL_lt : ∀ (l : Pgs) (n w : Nat), w < n → mexL (sheetsOf l n) w = w
  | [], n, w, _ => rfl
  | none :: l, n, w, h => mexL_lt l (n + 1) w (by omega)
  | some g :: l, n, w, h => by
    show mexL (sheetsOf l (n + 1)) (if n = w then w + 1 else w) = w
    rw [if_neg (by omega)]
    exact mexL_lt l (n + 1) w (by omega)
theorem mexL_at : ∀ (l : Pgs) (n : Nat), mexL (sheetsOf l n) n = n + holeOf l
  | [], n => rfl
  | none :: l, n => by
    show mexL (sheetsOf l (n + 1)) n = n + holeOf (none :: l)
    rw [mexL_lt l (n + 1) n (by omega)]
    rfl
  | some g :: l, n => by
    show mexL (sheetsOf l (n + 1)) (if n = n then n + 1 else n) = n + holeOf (some g :: l)
    rw [if_pos rfl, mexL_at l (n + 1)]
    have : holeOf (some g :: l) = holeOf l + 1 := by
      unfold holeOf
      rw [List.findIdx_cons]
      rfl
    omega
theorem mexL_hole (l : Pgs) : mexL (sheetsOf l 0) 0 = holeOf l := by rw [mexL_at]; omega
theorem mexL_snoc (l : List (Nat × PgS)) (p : Nat × PgS) (w : Nat) : mexL (l ++ [p]) w = if p.1 = mexL l w then mexL l w + 1 else mexL l w := by
  unfold mexL
  rw [List.foldl_append]
  rfl
theorem mexL_le (l : List (Nat × PgS)) (w : Nat) : mexL l w ≤ w + l.length := by
  induction l generalizing w with
  | nil => exact Nat.le_refl _
  | cons p l ih =>
    have := ih (if p.1 = w then w + 1 else w)
    show mexL l (if p.1 = w then w + 1 else w) ≤ _
    rw [List.length_cons]
    by_cases h : p.1 = w
    · rw [if_pos h] at this ⊢; omega
    · rw [if_neg h] at this ⊢; omega
theorem sheets_asc : ∀ (l : Pgs) (n : Nat), ((sheetsOf l n).map (·.1)).Pairwise (· < ·) ∧ ∀ p ∈ sheetsOf l n, n ≤ p.1
  | [], n => ⟨List.Pairwise.nil, fun p hp => by cases hp⟩
  | none :: l, n => by
    obtain ⟨h1, h2⟩ := sheets_asc l (n + 1)
    exact ⟨h1, fun p hp => by have := h2 p hp; omega⟩
  | some g :: l, n => by
    obtain ⟨h1, h2⟩ := sheets_asc l (n + 1)
    refine ⟨?_, fun p hp => ?_⟩
    · show (((n, g) :: sheetsOf l (n + 1)).map (·.1)).Pairwise (· < ·)
      rw [List.map_cons, List.pairwise_cons]
      refine ⟨fun x hx => ?_, h1⟩
      obtain ⟨p, hp, rfl⟩ := List.mem_map.1 hx
      have := h2 p hp
      dsimp only
      omega
    · rcases List.mem_cons.1 hp with rfl | hp
      · exact Nat.le_refl _
      · have := h2 p hp; omega
section
variable {e : Env} {w : World} {R : List HP}
/-- best, of the sheets of a pool. -/
theorem bestPool {M : RamS} {S : PoolS} {v : Value} (hP : PoolOk M S) (H : Holds e w (shH v (sheetsOf S.pgs 0) :: R)) {c : Nat} (hc : c < 64) (but : Int) :
    Calls Tryz.prog 15 #[v, .int .i64 c, .int .i64 but] w (Ret e (.int .i64 (bestInt (bestB (S.bks c) [but]))) (shH v (sheetsOf S.pgs 0) :: R)) := by
  have hl := hP.len
  have hsl := sheetsOf_le S.pgs 0
  have h1 := best20 H (by omega) c but (bkOf S.pgs c) (fun p hp hpc => by
    obtain ⟨i, hi, hpi⟩ := sheetsOf_mem hp
    unfold bkOf
    rw [hpi, Nat.zero_add, hi]
    dsimp only
    rw [if_pos (by omega)]) (fun p hp => by
    obtain ⟨i, hi, hpi⟩ := sheetsOf_mem hp
    have := (List.getElem?_eq_some_iff.1 hi).1
    exact ⟨hP.sets i _ hi, by omega⟩) (sheets_asc _ _).1
  have h2 : bestB (S.bks c) [but] = bestL (bkOf S.pgs c) ((t18 (sheetsOf S.pgs 0) c but).map (·.1)) := by
    unfold bestB
    rw [hP.bks c hc, bnums_t18 (by omega) c but]
  rw [h2]
  exact h1
end
end Go.Proofs.YtheblkofemobdaaGreat

/-
  gunnylaw20: PoolBest, the walk.
-/
namespace Go.Proofs.YtheblkofemobdaaGreat
open Go.RowKit

section
variable {e : Env} {w : World} {R : List HP}
/-- Alloc of bytes at hand: some pool that is one. -/
theorem allocAny {pb tb rb : Nat} {S : PoolS} {M : RamS} {v : Value} {d : List UInt8} {m : Nat} (hm : m ≤ 1000000) (hP : PoolOk M S) (H : Holds e w (pur (d.length = m) :: bts v d :: poolH pb tb rb S :: ramH rb M :: R)) :
    Calls Tryz.prog 11 #[.pointer (some ⟨pb, 0, none⟩), v] w (RetEx e (fun r : (Int × Int) × RamS × PoolS => .tuple #[.int .i64 r.1.1, .int .i64 r.1.2]) (fun r => pur (PoolOk r.2.1 r.2.2 ∧ r.2.2.tab.many ≤ S.tab.many + 1 ∧ r = S.alloc M d) :: poolH pb tb rb r.2.2 :: ramH rb r.2.1 :: R)) := by
  have hd := H.purE
  have h1 := H.drop.q2
  refine (poAlloc h1 hP v d (fun w' h' => bts.reads h') (by omega)).mono ?_
  rintro en w' ⟨r1, r2⟩
  exact ⟨S.alloc M d, r1, Holds.mkPur ⟨(alloc_ok hP d).1, (alloc_ok hP d).2, rfl⟩ r2.d2⟩
theorem freeAny {pb tb rb : Nat} {S : PoolS} {M : RamS} (hP : PoolOk M S) (H : Holds e w (poolH pb tb rb S :: ramH rb M :: R)) (x : Int) :
    Calls Tryz.prog 13 #[.pointer (some ⟨pb, 0, none⟩), .int .i64 x] w (RetEx e (fun r : Bool × RamS × PoolS => .bool r.1) (fun r => pur (PoolOk r.2.1 r.2.2 ∧ r.2.2.tab.many ≤ S.tab.many ∧ r = S.free1 M x) :: poolH pb tb rb r.2.2 :: ramH rb r.2.1 :: R)) := by
  refine (poFree H hP x).mono ?_
  rintro en w' ⟨r1, r2⟩
  exact ⟨S.free1 M x, r1, Holds.mkPur ⟨(free_ok hP x).1, (free_ok hP x).2, rfl⟩ r2⟩
set_option maxRecDepth 100000 in
set_option maxHeartbeats 4000000 in
theorem poolBest_walk (H : Holds e w R) (v : Value) (n : Nat) (xs : List Value) (hn : n ≤ 4611686018427387904) (hr : ∀ w', Holds e w' R → Reads w' v 4 n xs) (hD : ∀ i, i < n → ∃ d, DeedAt xs i d) (s16 : Int) (hs : 0 ≤ s16 ∧ s16 ≤ 65535) :
    Calls Tryz.prog 3 #[v, .int .u16 s16] w (Ret e (.bool true) R) := by
  have CG := great20 H v n xs hn hr hD
  obtain ⟨a, c, rfl⟩ := (hr w H).shape
  have HR := Lib.hid hr
  have HDD := Lib.hid hD
  clear hr hD
  obtain ⟨hs1, hs2⟩ := hs
  go_enter Tryz.func3, Tryz.ntmps3
  go_wp2_with fail
  refine CG.mono ?_
  rintro en w1 ⟨gb, rfl, H1⟩
  have hgb := H1.purE
  clear CG
  cases gb with
  | true =>
    go_wp2_with fail
    refine (lives20 H1.drop).mono ?_
    rintro en w2 ⟨rfl, H2⟩
    clear H1
    go_wp2_with fail
    go_ret
    exact ⟨rfl, H2⟩
  | false =>
    have hn60 := hgb rfl
    have H2 := H1.drop
    clear hgb H1 H
    go_wp2_with fail
    refine (ramNew_yes H2 60 (by omega) (by omega)).mono ?_
    rintro en w3 ⟨rb, rfl, H3⟩
    clear H2
    go_wp2_with fail
    refine (poNew H3 rb).mono ?_
    rintro en w4 ⟨⟨pb, tb⟩, rfl, H4⟩
    clear H3
    go_wp2_with fail
    go_loopw [8] (fun i wr => ∃ (k : Nat) (M : RamS) (S : PoolS), k ≤ n ∧ i = .int .i64 (k : Nat) ∧ Hid (PoolOk M S ∧ S.tab.many ≤ k) ∧ Holds e wr (poolH pb tb rb S :: ramH rb M :: R)) (fun i _ => n - (intOf i).toNat)
    case atStart => exact ⟨0, _, _, by omega, rfl, Lib.hid ⟨PoolOk.new (by omega) (by omega), Int.le_refl _⟩, H4⟩
    case round =>
      obtain ⟨k, M, S, hk, rfl, HP, HX⟩ := hrel
      clear H4
      by_cases hlt : k < n
      · obtain ⟨d, hd⟩ := HDD.out k hlt
        obtain ⟨g, o, rfl, q0, q1, q2, q3⟩ := deed_cells (HR.out _ HX.drop.drop) hlt hd
        have HCE := Lib.hid fun (w' : World) (h : Holds e w' R) => (by obtain ⟨_, _, h0, h1⟩ := deed_cells (HR.out _ h) hlt hd; cases h0; exact h1 : w'.cell? ⟨g, o + k * 4, none⟩ = some (.int .i64 d.kind) ∧ w'.cell? ⟨g, o + k * 4 + 1, none⟩ = some (.int .i64 d.n) ∧ w'.cell? ⟨g, o + k * 4 + 2, none⟩ = some (.int .i64 d.size) ∧ w'.cell? ⟨g, o + k * 4 + 3, none⟩ = some (.int .u8 d.seed))
        obtain ⟨b21, b22⟩ := hd.b2
        obtain ⟨b31, b32⟩ := hd.b3
        have hki : (k : Int) < n := by omega
        clear hd
        obtain ⟨kd, nn, sz, sd⟩ := d
        dsimp only at *
        by_cases hk2 : kd < 2
        · obtain ⟨m, hm⟩ : ∃ m : Nat, max 0 (min 5000 sz) = (m : Int) := ⟨(max 0 (min 5000 sz)).toNat, by omega⟩
          have hm5 : m ≤ 5000 := by omega
          have HBY := Lib.hid fun (w' : World) (h : Holds e w' (poolH pb tb rb S :: ramH rb M :: R)) => bytes20 h m (by omega) sd ⟨b31, b32⟩
          have HAL := Lib.hid fun (w' : World) v d (h : Holds e w' (pur (d.length = m) :: bts v d :: poolH pb tb rb S :: ramH rb M :: R)) => allocAny (by omega) HP.out.1 h
          have HD := HX.drawn (wr.drawn + 1)
          go_wp2_with fail
          go_region_held3 (fun w' => w'.cell? ⟨g, o + k * 4 + 2, none⟩ = some (.int .i64 sz) ∧ w'.cell? ⟨g, o + k * 4 + 3, none⟩ = some (.int .u8 sd))
            (first | exact (HCE.out _ (Holds.drop (Holds.drop (by assumption)))).2.2 | exact (HCE.out _ (Holds.drop (Holds.drop (Holds.drop (Holds.drop (by assumption)))))).2.2 | exact (HCE.out _ (Holds.drop (Holds.drop (Holds.drop (by assumption))))).2.2)
            (first
              | (go_at_call 12; refine (HBY.out _ (by assumption)).mono ?_; rintro e w4 ⟨⟨vb, db⟩, rfl, HN⟩)
              | (go_at_call 11; refine (HAL.out _ _ _ HN).mono ?_; rintro e w6 ⟨r, rfl, HA⟩))
          all_goals
            have HP2 := HA.purE
            have HA2 := HA.drop
            clear HN HBY HAL HD HCE q0 q1 q2 q3 HX HA
            go_wp2_with fail
            go_roundw
            case rel => exact ⟨k + 1, r.2.1, r.2.2, by omega, by go_num, Lib.hid ⟨HP2.1, by have := HP2.2.1; have := HP.out.2; omega⟩, HA2⟩
            case measure => simp [intOf]; omega
        · have hk0 : decide (kd < 2) = false := decide_eq_false hk2
          have HFR := Lib.hid (freeAny HP.out.1 HX nn)
          go_wp2_with fail
          refine HFR.out.mono ?_
          rintro en w6 ⟨r, rfl, HA⟩
          have HP2 := HA.purE
          have HA2 := HA.drop
          clear HFR HCE q0 q1 q2 q3 HX HA
          go_wp2_with fail
          go_roundw
          case rel => exact ⟨k + 1, r.2.1, r.2.2, by omega, by go_num, Lib.hid ⟨HP2.1, by have := HP2.2.1; have := HP.out.2; omega⟩, HA2⟩
          case measure => simp [intOf]; omega
      · obtain rfl : k = n := by omega
        have hki : ¬ (k : Int) < k := by omega
        obtain ⟨hP, hmk⟩ := HP.out
        obtain ⟨N, hN⟩ : ∃ N : Nat, 1 + s16 % 4096 = (N : Int) := ⟨(1 + s16 % 4096).toNat, by omega⟩
        have hN1 : 1 ≤ N := by omega
        have hN2 : N ≤ 4096 := by omega
        obtain ⟨c0, hc0⟩ : ∃ c0 : Nat, ((N : Int) - 1) / 64 = (c0 : Int) := ⟨(N - 1) / 64, by omega⟩
        have hc64 : c0 < 64 := by omega
        have hcN : (N - 1) / 64 = c0 := by omega
        have hpl := hP.len
        have hsl := sheetsOf_le S.pgs 0
        have HQ := Lib.hid (show needP S N = if (bestB (S.bks c0) []).isSome then 0 else cFrames c0 by unfold needP; rw [hcN])
        have HW := Lib.hid (show whereP S N = (bestB (S.bks c0) []).getD (holeOf S.pgs) by unfold whereP; rw [hcN])
        have HMX := Lib.hid (mexL_hole S.pgs)
        have CSH := Lib.hid (poSheets HX (by omega) hP.rows)
        have CBE : Hid (∀ w' v, Holds e w' (shH v (sheetsOf S.pgs 0) :: poolH pb tb rb S :: ramH rb M :: R) → Calls Tryz.prog 15 #[v, .int .i64 c0, .int .i64 (-1)] w' (Ret e (.int .i64 (bestInt (bestB (S.bks c0) []))) (shH v (sheetsOf S.pgs 0) :: poolH pb tb rb S :: ramH rb M :: R))) := Lib.hid fun w' v h => by
          have h1 := bestPool hP h hc64 (-1)
          have h2 : bestB (S.bks c0) [-1] = bestB (S.bks c0) [] := by unfold bestB; rw [bnums_neg]
          rw [h2] at h1
          exact h1
        have CND : Hid (∀ w', Holds e w' (poolH pb tb rb S :: ramH rb M :: R) → Calls Tryz.prog 17 #[.pointer (some ⟨pb, 0, none⟩), .int .i64 N] w' (Ret e (.int .i64 (needP S N : Nat)) (poolH pb tb rb S :: ramH rb M :: R))) := Lib.hid fun w' h => poNeed h N hN1 hN2 (hP.bkok (by omega))
        have CF15 := Lib.hid fun w' => r15Frames (w := w') c0 hc64
        have hcf := cFrames_bd c0
        have HPO := Lib.hid hP
        have hm512 : S.tab.many < 512 := by omega
        have hL1 : (sheetsOf S.pgs 0).length ≤ 1000 := by omega
        clear hP hcN hpl hsl hmk HP
        obtain ⟨L, hL⟩ : ∃ L, sheetsOf S.pgs 0 = L := ⟨_, rfl⟩
        rw [hL] at CSH CBE HMX hL1
        obtain ⟨bo, hbo⟩ : ∃ bo, bestB (S.bks c0) [] = bo := ⟨_, rfl⟩
        rw [hbo] at HQ HW CBE
        clear hL hbo
        go_wp2_with fail
        refine CSH.out.mono ?_
        rintro en w5 ⟨vs, rfl, H5⟩
        clear CSH HX
        have HE := Lib.hid (sh_open H5)
        obtain ⟨sa, sc, hvs⟩ : ∃ sa sc, vs = .slice sa L.length sc := by obtain ⟨a, c, _, h, _⟩ := HE.out; exact ⟨a, c, h⟩
        subst hvs
        clear HE
        go_wp2_with fail
        refine (CBE.out _ _ H5).mono ?_
        rintro en w6 ⟨rfl, H6⟩
        clear CBE H5
        cases bo with
        | some m =>
          have HW2 : Hid (whereP S N = m) := Lib.hid (by rw [HW.out]; rfl)
          have HQ2 : Hid (needP S N = 0) := Lib.hid (by rw [HQ.out]; rfl)
          have hm0 : decide ((m : Int) < 0) = false := decide_eq_false (by omega)
          obtain ⟨q, hq⟩ : ∃ q : Nat, q = 0 := ⟨_, rfl⟩
          rw [HQ2.out] at CND
          have HQ3 : Hid (needP S N = 0) := HQ2
          have H6 := H6.drop
          unfold bestInt
          dsimp only
          clear HW HQ HMX CF15 hq q
          go_wp2_with fail
          refine (CND.out _ H6).mono ?_
          rintro en w7 ⟨rfl, H7⟩
          clear H6 CND
          have CBY := Lib.hid (bytes20 H7 N (by omega) 1 ⟨by omega, by omega⟩)
          have hf96 := HPO.out.pgs.fr.free96
          have hnn : (((0 : Nat) : Int) != ((0 : Nat) : Int)) = false := by simp
          go_wp2_with fail
          refine CBY.out.mono ?_
          rintro en w8 ⟨⟨vb, db⟩, rfl, H8⟩
          have hdb := H8.purE
          have CAL := Lib.hid (allocAny (by omega : N ≤ 1000000) HPO.out H8)
          have HDB := Lib.hid hdb
          clear CBY H7 hdb
          go_wp2_with fail
          refine CAL.out.mono ?_
          rintro en w9 ⟨r, rfl, H9⟩
          obtain ⟨hP9, _, hr9⟩ := H9.purE
          have H10 := H9.drop
          clear CAL H8 H9
          by_cases hok : 0 ≤ M.fr.free.length
          · have hdl : db.length = N := HDB.out
            obtain ⟨x, A⟩ := alloc_law HPO.out (d := db) (by omega) (by omega) hm512 (by rw [hdl, HQ3.out]; exact hok)
            rw [← hr9, hdl, HW2.out] at A
            have e1 := A.res
            have a1 := A.h1
            have a2 := A.h2
            obtain ⟨k9, hpl⟩ := A.place
            rw [hdl] at hpl
            clear A hr9
            obtain ⟨⟨r1, r2⟩, M9, S9⟩ := r
            dsimp only at *
            cases e1
            have hget : S9.tab.get (x : Int) = (⟨(m : Nat), (k9 : Nat), (N : Nat)⟩, true) := by
              unfold TabS.get
              rw [if_pos (inb_nat a1 a2 (by rw [hpl]; exact place_nz _ _ hN1)), Int.toNat_natCast, hpl]
            have CWH := poWhere H10 (x : Int)
            rw [hget] at CWH
            unfold PlaceS.val at CWH
            dsimp only at CWH
            have CWH := Lib.hid CWH
            clear hget hpl H10 hP9
            generalize m = wn at *
            go_wp2_with fail
            refine CWH.out.mono ?_
            rintro en w10 ⟨rfl, H11⟩
            have H12 := (H11.alloc (.cells #[.int .i64 wn, .int .i64 k9, .int .i64 N] 51)).drop.drop.drop
            clear CWH H11
            go_wp2_with fail
            refine (lives20 H12).mono ?_
            rintro en w11 ⟨rfl, H13⟩
            clear H12
            go_wp2_with fail
            go_ret
            exact ⟨rfl, H13⟩
          · exfalso
            omega
        | none =>
          have HW2 : Hid (whereP S N = holeOf S.pgs) := Lib.hid (by rw [HW.out]; rfl)
          have HQ2 : Hid (needP S N = cFrames c0) := Lib.hid (by rw [HQ.out]; rfl)
          rw [HQ2.out] at CND
          have HQ3 := HQ2
          unfold bestInt
          dsimp only
          clear HW HQ
          obtain ⟨cf, hcf0⟩ : ∃ cf, cFrames c0 = cf := ⟨_, rfl⟩
          rw [hcf0] at CND HQ3 CF15 hcf
          clear hcf0 HQ2
          go_wp2_with fail
          refine (CF15.out _).mono ?_
          rintro en w7 ⟨rfl, n7, hw7⟩
          have H7 := hw7 ▸ H6.drewN n7
          clear hw7 CF15 H6
          obtain ⟨sha, shc, shQ, hsv, hsq, HS7⟩ := sh_open H7
          cases hsv
          have hsl7 : shQ.length = L.length := by rw [← hsq, List.length_map]
          rw [hsl7] at HS7
          have HSQ := Lib.hid hsq
          have HSL := Lib.hid hsl7
          clear hsq hsl7 H7
          go_wp2_with fail
          go_loopw [11, 13] (fun wt i wr => ∃ k2 : Nat, k2 ≤ L.length ∧ i = .int .i64 (k2 : Nat) ∧ wt = .int .i64 (mexL (L.take k2) 0 : Nat) ∧ Holds e wr (row (.slice sa L.length sc) 45 5 L.length (shQ.flatMap shCells) :: all shRow shQ :: poolH pb tb rb S :: ramH rb M :: R)) (fun _ i _ => L.length - (intOf i).toNat)
          case atStart => exact ⟨0, by omega, rfl, rfl, HS7⟩
          case round =>
            obtain ⟨k2, hk2, rfl, rfl, HX⟩ := hrel
            clear HS7
            by_cases hlt2 : k2 < L.length
            · obtain ⟨q, hq⟩ : ∃ q, shQ[k2]? = some q := ⟨_, List.getElem?_eq_getElem (by rw [HSL.out]; exact hlt2)⟩
              have hLk : L[k2]? = some q.1 := by rw [← HSQ.out, List.getElem?_map, hq]; rfl
              have HS := Lib.hid (show mexL (L.take (k2 + 1)) 0 = if q.1.1 = mexL (L.take k2) 0 then mexL (L.take k2) 0 + 1 else mexL (L.take k2) 0 by rw [List.take_add_one, hLk]; exact mexL_snoc _ _ _)
              obtain ⟨g0, o0, rfl, _⟩ := (row.reads HX).at (by omega)
              have q0 : wr.cell? ⟨g0, o0 + k2 * 5, none⟩ = some (.int .i64 (q.1.1 : Int)) := rowf_cell shCells 5 shCells_len (row.reads HX) hq (j := 0) rfl
              have hki2 : (k2 : Int) < L.length := by omega
              have hml := mexL_le (L.take k2) 0
              rw [List.length_take] at hml
              have hml2 : mexL (L.take k2) 0 ≤ 1000 := by omega
              clear hq hLk hml
              generalize q.1.1 = pn at *
              obtain ⟨mx, hmx⟩ : ∃ mx, mexL (L.take k2) 0 = mx := ⟨_, rfl⟩
              rw [hmx] at HS hml2
              rw [hmx]
              clear hmx
              by_cases hpm : pn = mx
              · have HS2 := Lib.hid (HS.out.trans (if_pos hpm))
                have hpe : ((pn : Int) == (mx : Int)) = true := by simp [hpm]
                clear HS hpm
                go_wp2_with fail
                go_roundw
                case rel => exact ⟨k2 + 1, by omega, by go_num, by rw [HS2.out]; go_num, HX⟩
                case measure => simp [intOf]; omega
              · have HS2 := Lib.hid (HS.out.trans (if_neg hpm))
                have hpe : ((pn : Int) == (mx : Int)) = false := by simp; omega
                clear HS hpm
                go_wp2_with fail
                go_roundw
                case rel => exact ⟨k2 + 1, by omega, by go_num, by rw [HS2.out], HX⟩
                case measure => simp [intOf]; omega
            · have hki2 : ¬ (k2 : Int) < L.length := by omega
              obtain rfl : k2 = L.length := by omega
              rw [List.take_length, HMX.out]
              have H7 := HX.drop.drop
              clear HX HMX HSQ HSL
              obtain ⟨hl0, hhl0⟩ : ∃ hl0, holeOf S.pgs = hl0 := ⟨_, rfl⟩
              rw [hhl0] at HW2 ⊢
              clear hhl0
              go_wp2_with fail
              refine (CND.out _ H7).mono ?_
              rintro en w7 ⟨rfl, H6⟩
              have H7 := H6
              clear H6
              have CBY := Lib.hid (bytes20 H7 N (by omega) 1 ⟨by omega, by omega⟩)
              have hf96 := HPO.out.pgs.fr.free96
              have hnn : (((cf : Nat) : Int) != ((cf : Nat) : Int)) = false := by simp
              go_wp2_with fail
              refine CBY.out.mono ?_
              rintro en w8 ⟨⟨vb, db⟩, rfl, H8⟩
              have hdb := H8.purE
              have CAL := Lib.hid (allocAny (by omega : N ≤ 1000000) HPO.out H8)
              have HDB := Lib.hid hdb
              clear CBY H7 hdb
              go_wp2_with fail
              refine CAL.out.mono ?_
              rintro en w9 ⟨r, rfl, H9⟩
              obtain ⟨hP9, _, hr9⟩ := H9.purE
              have H10 := H9.drop
              clear CAL H8 H9
              by_cases hok : cf ≤ M.fr.free.length
              · have hdl : db.length = N := HDB.out
                obtain ⟨x, A⟩ := alloc_law HPO.out (d := db) (by omega) (by omega) hm512 (by rw [hdl, HQ3.out]; exact hok)
                rw [← hr9, hdl, HW2.out] at A
                have e1 := A.res
                have a1 := A.h1
                have a2 := A.h2
                obtain ⟨k9, hpl⟩ := A.place
                rw [hdl] at hpl
                clear A hr9
                obtain ⟨⟨r1, r2⟩, M9, S9⟩ := r
                dsimp only at *
                cases e1
                have hget : S9.tab.get (x : Int) = (⟨(hl0 : Nat), (k9 : Nat), (N : Nat)⟩, true) := by
                  unfold TabS.get
                  rw [if_pos (inb_nat a1 a2 (by rw [hpl]; exact place_nz _ _ hN1)), Int.toNat_natCast, hpl]
                have CWH := poWhere H10 (x : Int)
                rw [hget] at CWH
                unfold PlaceS.val at CWH
                dsimp only at CWH
                have CWH := Lib.hid CWH
                clear hget hpl H10 hP9
                generalize hl0 = wn at *
                go_wp2_with fail
                refine CWH.out.mono ?_
                rintro en w10 ⟨rfl, H11⟩
                have H12 := (H11.alloc (.cells #[.int .i64 wn, .int .i64 k9, .int .i64 N] 51)).drop.drop.drop
                clear CWH H11
                go_wp2_with fail
                refine (lives20 H12).mono ?_
                rintro en w11 ⟨rfl, H13⟩
                clear H12
                go_wp2_with fail
                go_ret
                exact ⟨rfl, H13⟩
              · have hdl : db.length = N := HDB.out
                rw [alloc_no (by omega) (by omega) (.inr (by rw [hdl, HQ3.out]; omega))] at hr9
                subst hr9
                dsimp only at H10
                obtain ⟨f, X, hf, HF, _⟩ := ram_fr H10.swap
                have CC := Lib.hid (ramCount ((HF.alloc (.cells #[.int .i64 0] 3)).drop) 0 (.slice (some ⟨w9.heap.size, 0, none⟩) 1 1) (fun n => Reads.drewN (reads_lit1 w9 (.int .i64 0) 3)))
                rw [free_count HPO.out.pgs.fr] at CC
                have hlt9 : (M.fr.free.length : Int) < ((cf : Nat) : Int) := by omega
                clear H10 hP9 HF
                generalize M.fr.free.length = fl at *
                go_wp2_with fail
                refine CC.out.mono ?_
                rintro en w10 ⟨rfl, H11⟩
                have H12 := H11.drop.drop.drop
                clear CC H11
                go_wp2_with fail
                refine (lives20 H12).mono ?_
                rintro en w11 ⟨rfl, H13⟩
                clear H12
                go_wp2_with fail
                go_ret
                exact ⟨rfl, H13⟩
end
end Go.Proofs.YtheblkofemobdaaGreat

/-
  gunnylaw20: PoolBest, for arguments.
-/
namespace Go.Proofs.YtheblkofemobdaaGreat
open Go.RowKit
set_option maxRecDepth 100000 in
theorem deeds20 {W : World} {v : Value} (a : Arg Tryz.prog W 22 v) : ∃ n xs, n ≤ 4611686018427387904 ∧ Reads W v 4 n xs ∧ ∀ i, i < n → ∃ d, DeedAt xs i d := by
  obtain ⟨n, xs, hr, hb, hf⟩ := a.slice Tryz.underlying22
  have h4 : Tryz.prog.cellsOf 33 = 4 := by kernel_rfl
  have h6 : Tryz.prog.bytesOf 33 = 32 := by kernel_rfl
  rw [h4] at hr hf
  rw [h6] at hb
  have hre : reachBytes = 140737488351232 := by decide
  exact ⟨n, xs, by omega, hr, fun i hi => deed20_of (k := 2) (hf i hi)⟩
theorem u16_arg {P : Program} {W : World} {t : TypeId} {v : Value} (h : Arg P W t v) (ht : P.underlying t = some (.int .u16)) : ∃ z, v = .int .u16 z ∧ 0 ≤ z ∧ z ≤ 65535 := by
  obtain ⟨z, hz, hw⟩ := h.int ht
  refine ⟨z, hz, ?_⟩
  unfold Lit.wf at hw
  have h2 : IntKind.u16.min ≤ z ∧ z ≤ IntKind.u16.max := by simpa using hw
  have h3 : IntKind.u16.min = 0 := by decide
  have h4 : IntKind.u16.max = 65535 := by decide
  rw [h3, h4] at h2
  exact h2
theorem poolBest_arg (W : World) (v0 v1 : Value) (a0 : Arg Tryz.prog W 22 v0) (a1 : Arg Tryz.prog W 23 v1) :
    Calls Tryz.prog 3 #[v0, v1] W fun e w' => e = .returned (.bool true) ∧ Below W.heap.size W w' := by
  obtain ⟨n, xs, hn, hr, hD⟩ := deeds20 a0
  obtain ⟨z, rfl, hz⟩ := u16_arg a1 Tryz.underlying23
  exact (poolBest_walk (Holds.start W) v0 n xs hn (fun w' h => hr.based h) hD z hz).mono fun en w' ⟨r1, r2⟩ => ⟨r1, r2.below rfl rfl rfl⟩
end Go.Proofs.YtheblkofemobdaaGreat

/-
  gunnylaw20: what a pool's handles have, as a list. No program in sight.
-/
namespace Go.Proofs.YtheblkofemobdaaGreat
open Go.RowKit

structure Kept (M : RamS) (S : PoolS) (L : List OE) : Prop where
  ok : PoolOk M S
  look : ∀ (x : Int) (d : List UInt8), got M S x = some d ↔ (x, d) ∈ L
  nd : (L.map (·.1)).Nodup
section
variable {M M' : RamS} {S S' : PoolS} {L : List OE}
theorem Kept.inb (h : Kept M S L) {x : Int} : S.tab.inb x = true ↔ x ∈ L.map (·.1) := by
  constructor
  · intro hx
    obtain ⟨d, hd, _⟩ := got_some h.ok hx
    exact List.mem_map.2 ⟨_, (h.look x d).1 hd, rfl⟩
  · intro hx
    obtain ⟨⟨y, d⟩, hq, rfl⟩ := List.mem_map.1 hx
    cases hi : S.tab.inb y with
    | true => rfl
    | false =>
      have := (h.look y d).2 hq
      rw [got_none hi] at this
      cases this
theorem Kept.at (h : Kept M S L) {q : OE} (hq : q ∈ L) : S.tab.inb q.1 = true ∧ got M S q.1 = some q.2 ∧ (S.tab.all q.1.toNat).len.toNat = q.2.length := by
  have h1 := (h.look q.1 q.2).2 hq
  have h2 : S.tab.inb q.1 = true := h.inb.2 (List.mem_map.2 ⟨q, hq, rfl⟩)
  obtain ⟨d, hd, hl⟩ := got_some h.ok h2
  rw [h1] at hd
  cases hd
  exact ⟨h2, h1, hl.symm⟩
theorem Kept.lens (h : Kept M S L) {q : OE} (hq : q ∈ L) : 1 ≤ q.2.length ∧ q.2.length ≤ 4096 ∧ (S.tab.all q.1.toNat).len = q.2.length := by
  obtain ⟨h1, h2, h3⟩ := h.at hq
  obtain ⟨n, ob, ln, g, V, _⟩ := h.ok.at h1
  have e := V.l1
  have e2 := V.l2
  rw [V.eq] at h3 ⊢
  dsimp only at h3 ⊢
  rw [Int.toNat_natCast] at h3
  omega
/-- The handles in use. -/
def hndl (t : TabS) : List Int := ((List.range 512).filter fun k => decide (t.all (k + 1) ≠ PlaceS.zero)).map fun k => ((k + 1 : Nat) : Int)
theorem hndl_mem {t : TabS} {x : Int} : x ∈ hndl t ↔ t.inb x = true := by
  unfold hndl
  rw [List.mem_map]
  constructor
  · rintro ⟨k, hk, rfl⟩
    obtain ⟨h1, h2⟩ := List.mem_filter.1 hk
    have h1 := List.mem_range.1 h1
    exact inb_nat (by omega) (by omega) (of_decide_eq_true h2)
  · intro hx
    obtain ⟨h1, h2, h3⟩ := TabS.inb_yes hx
    refine ⟨x.toNat - 1, List.mem_filter.2 ⟨List.mem_range.2 (by omega), decide_eq_true ?_⟩, by omega⟩
    rw [show x.toNat - 1 + 1 = x.toNat by omega]
    exact h3
theorem hndl_nd (t : TabS) : (hndl t).Nodup := by
  unfold hndl
  refine List.Pairwise.map _ (fun a b h => ?_) (List.Pairwise.filter _ List.nodup_range)
  intro e
  exact h (by omega)
theorem Kept.perm (h : Kept M S L) : (L.map (·.1)).Perm (hndl S.tab) :=
  (List.perm_ext_iff_of_nodup h.nd (hndl_nd _)).2 fun x => by rw [hndl_mem]; exact h.inb.symm
theorem hsum_hndl (f : PlaceS → Nat) (t : TabS) : hsum f t = ((hndl t).map fun x => f (t.all x.toNat)).sum := by
  unfold hsum hndl
  rw [List.map_map]
  generalize List.range 512 = l
  induction l with
  | nil => rfl
  | cons k l ih =>
    rw [List.map_cons, List.sum_cons, ih, List.filter_cons]
    by_cases hk : t.all (k + 1) = PlaceS.zero
    · rw [if_pos hk, if_neg (by simp [hk])]
      omega
    · rw [if_neg hk, if_pos (by simp [hk]), List.map_cons, List.sum_cons]
      rfl
theorem Kept.sum (h : Kept M S L) (F : Nat → Nat) : hsum (fun p => F p.len.toNat) S.tab = (L.map fun q => F q.2.length).sum := by
  rw [hsum_hndl, ← (h.perm.map _).sum_nat, List.map_map]
  congr 1
  apply List.map_congr_left
  intro q hq
  simp only [Function.comp_apply]
  rw [(h.at hq).2.2]
theorem Kept.many (h : Kept M S L) : S.tab.many = (L.length : Int) := by
  rw [h.ok.tab.many]
  have h1 : hsum (fun _ => 1) S.tab = (L.map fun _ => 1).sum := h.sum fun _ => 1
  have h2 : ∀ l : List OE, (l.map fun _ => 1).sum = l.length := fun l => by
    induction l with
    | nil => rfl
    | cons q l ih => rw [List.map_cons, List.sum_cons, ih, List.length_cons, Nat.add_comm]
  rw [h1, h2]
theorem Kept.len512 (h : Kept M S L) : L.length ≤ 512 := by
  have := h.many
  have := h.ok.tab.bd
  omega
theorem placesOf_sum (t : TabS) (n : Nat) : (placesOf t n).map (·.len) = ((List.range n).filter fun k => decide (t.all (k + 1) ≠ PlaceS.zero ∧ k < 512)).map fun k => (t.all (k + 1)).len := by
  induction n with
  | zero => rfl
  | succ n ih =>
    rw [placesOf_succ, List.map_append, ih, List.range_succ, List.filter_append, List.map_append]
    congr 1
    have e : t.inb ((n : Int) + 1) = decide (t.all (n + 1) ≠ PlaceS.zero ∧ n < 512) := by
      unfold TabS.inb
      rw [show ((n : Int) + 1).toNat = n + 1 by omega]
      by_cases h1 : t.all (n + 1) = PlaceS.zero
      · rw [decide_eq_false (fun h => h.2.2 h1), decide_eq_false (fun h => h.1 h1)]
      · by_cases h2 : n < 512
        · rw [decide_eq_true ⟨by omega, by omega, h1⟩, decide_eq_true ⟨h1, h2⟩]
        · rw [decide_eq_false (fun h => by omega), decide_eq_false (fun h => by omega)]
    rw [e]
    by_cases hd : t.all (n + 1) ≠ PlaceS.zero ∧ n < 512
    · rw [decide_eq_true hd, if_pos rfl, List.filter_cons_of_pos (by simpa using hd)]; rfl
    · rw [decide_eq_false hd, List.filter_cons_of_neg (by simpa using hd)]; rfl
theorem Kept.bytes (h : Kept M S L) : bytesSum (placesOf S.tab 512) = (bytesO L : Nat) := by
  have h1 := h.sum fun n => n
  rw [hsum_hndl] at h1
  have h2 : bytesO L = ((hndl S.tab).map fun x => (S.tab.all x.toNat).len.toNat).sum := h1.symm
  rw [h2]
  unfold bytesSum hndl
  rw [placesOf_sum, List.map_map]
  have e : (List.range 512).filter (fun k => decide (S.tab.all (k + 1) ≠ PlaceS.zero ∧ k < 512)) = (List.range 512).filter fun k => decide (S.tab.all (k + 1) ≠ PlaceS.zero) := by
    apply List.filter_congr
    intro k hk
    have := List.mem_range.1 hk
    simp [this]
  rw [e]
  have hpos : ∀ k ∈ (List.range 512).filter (fun k => decide (S.tab.all (k + 1) ≠ PlaceS.zero)), 0 ≤ (S.tab.all (k + 1)).len := by
    intro k hk
    obtain ⟨h3, h4⟩ := List.mem_filter.1 hk
    have h3 := List.mem_range.1 h3
    obtain ⟨n, ob, ln, g, V⟩ := h.ok.tab.val (k + 1) (by omega) (by omega) (of_decide_eq_true h4)
    rw [V.eq]
    exact Int.natCast_nonneg _
  generalize (List.range 512).filter (fun k => decide (S.tab.all (k + 1) ≠ PlaceS.zero)) = l at hpos
  induction l with
  | nil => rfl
  | cons k l ih =>
    have h5 := hpos k (by simp)
    have h6 := ih fun j hj => hpos j (by simp [hj])
    simp only [List.map_cons, List.sum_cons, Function.comp_apply] at h6 ⊢
    rw [show ((k + 1 : Nat) : Int).toNat = k + 1 by omega]
    omega
theorem objectsOf_wsum (c : Nat) : ∀ (l : Pgs) (n : Nat), objectsOf (sheetsOf l n) (c : Int) = wsum (fun k => if k = c then 1 else 0) l
  | [], n => rfl
  | none :: l, n => by
    show objectsOf (sheetsOf l (n + 1)) _ = _
    rw [objectsOf_wsum c l (n + 1)]
    unfold wsum
    rw [List.map_cons, List.sum_cons]
    show _ = 0 + _
    omega
  | some g :: l, n => by
    have ih := objectsOf_wsum c l (n + 1)
    unfold objectsOf wsum at *
    show (((n, g) :: sheetsOf l (n + 1)).map _).sum = _
    rw [List.map_cons, List.sum_cons, ih, List.map_cons, List.sum_cons]
    congr 1
    unfold pgUse
    dsimp only
    by_cases hc : g.cls = c
    · rw [if_pos (by omega), if_pos hc, Nat.one_mul]
    · rw [if_neg (by omega), if_neg hc, Nat.zero_mul]
theorem framesOf_fsum : ∀ (l : Pgs) (n : Nat), framesOf (sheetsOf l n) = fsum l
  | [], n => rfl
  | none :: l, n => by
    show framesOf (sheetsOf l (n + 1)) = _
    rw [framesOf_fsum l (n + 1)]
    unfold fsum
    rw [List.map_cons, List.sum_cons]
    show _ = 0 + _
    omega
  | some g :: l, n => by
    have ih := framesOf_fsum l (n + 1)
    unfold framesOf fsum at *
    show (((n, g) :: sheetsOf l (n + 1)).map _).sum = _
    rw [List.map_cons, List.sum_cons, ih, List.map_cons, List.sum_cons]
    rfl
theorem Kept.objects (h : Kept M S L) (c : Nat) : objectsOf (sheetsOf S.pgs 0) (c : Int) = objectsO L c := by
  rw [objectsOf_wsum, h.ok.tab.sum]
  have h1 := h.sum fun n => if (n - 1) / 64 = c then 1 else 0
  dsimp only
  rw [Nat.add_zero]
  exact h1
theorem objectsOf_none {l : List (Nat × PgS)} {c : Int} (h : ∀ p ∈ l, (p.2.cls : Int) ≠ c) : objectsOf l c = 0 := by
  unfold objectsOf
  induction l with
  | nil => rfl
  | cons p l ih =>
    rw [List.map_cons, List.sum_cons, ih fun q hq => h q (by simp [hq]), if_neg (h p (by simp))]
theorem PoolOk.sheet (h : PoolOk M S) {p : Nat × PgS} (hp : p ∈ sheetsOf S.pgs 0) : S.pgs[p.1]? = some (some p.2) ∧ ∃ Lf, PgInv M p.2 Lf := by
  obtain ⟨i, hi, hpi⟩ := sheetsOf_mem hp
  obtain rfl : p.1 = i := by omega
  exact ⟨hi, h.pgs.pg _ _ hi⟩
theorem Kept.alloc {d : List UInt8} {n x : Nat} {q : (Int × Int) × RamS × PoolS} (h : Kept M S L) (A : Alloced M S d n x q) : Kept q.2.1 q.2.2 (L ++ [((x : Int), d)]) ∧ atO L (x : Int) = -1 := by
  have hno : S.tab.inb (x : Int) = false := inb_off (by rw [Int.toNat_natCast]; exact A.hz)
  have hnx : ∀ q' ∈ L, q'.1 ≠ (x : Int) := fun q' hq' e => by
    have := (h.at hq').1
    rw [e, hno] at this
    cases this
  refine ⟨⟨A.ok, fun y d' => ?_, ?_⟩, atO_none fun k q' hq' => hnx q' (List.mem_of_getElem? hq')⟩
  · rw [A.got, List.mem_append, List.mem_singleton, ← h.look]
    by_cases hy : y = (x : Int)
    · rw [if_pos hy, hy, got_none hno]
      constructor
      · intro e; cases e; exact .inr rfl
      · rintro (e | e)
        · cases e
        · cases e; rfl
    · rw [if_neg hy]
      constructor
      · exact .inl
      · rintro (e | e)
        · exact e
        · cases e; exact absurd rfl hy
  · rw [List.map_append, List.map_singleton, List.nodup_append]
    refine ⟨h.nd, by simp, fun a ha b hb => ?_⟩
    obtain ⟨q', hq', rfl⟩ := List.mem_map.1 ha
    simp at hb
    rw [hb]
    exact hnx q' hq'
theorem Kept.no (h : Kept M S L) {x : Int} (hx : S.tab.inb x = false) : atO L x = -1 := atO_none fun k q hq e => by
  have := (h.at (List.mem_of_getElem? hq)).1
  rw [e, hx] at this
  cases this
theorem nodup_at {k i : Nat} {q q' : OE} (hnd : (L.map (·.1)).Nodup) (hk : L[k]? = some q) (hi : L[i]? = some q') (he : q.1 = q'.1) : k = i := by
  have h1 : (L.map (·.1))[k]? = some q.1 := by rw [List.getElem?_map, hk]; rfl
  have h2 : (L.map (·.1))[i]? = some q.1 := by rw [List.getElem?_map, hi, he]; rfl
  exact (List.getElem?_inj (List.getElem?_eq_some_iff.1 h1).1 hnd).1 (h1.trans h2.symm)
theorem Kept.drop {x : Int} {q : RamS × PoolS} (h : Kept M S L) (hx : S.tab.inb x = true) (F : Freed M S x q) : ∃ k, k < L.length ∧ atO L x = (k : Int) ∧ Kept q.1 q.2 (L.eraseIdx k) := by
  rcases atO_cases L x with ⟨_, h2⟩ | ⟨k, q0, hk, h2, h3⟩
  · obtain ⟨q0, hq0, e⟩ := List.mem_map.1 (h.inb.1 hx)
    obtain ⟨k, hk⟩ := List.mem_iff_getElem?.1 hq0
    exact absurd e (h2 k q0 hk)
  · refine ⟨k, (List.getElem?_eq_some_iff.1 hk).1, h2, F.ok, fun y d => ?_, ?_⟩
    · rw [F.got, List.mem_eraseIdx_iff_getElem?]
      by_cases hy : y = x
      · rw [if_pos hy]
        constructor
        · intro e; cases e
        · rintro ⟨i, hi, e⟩
          exact absurd (nodup_at h.nd hk e (h3.trans hy.symm)).symm hi
      · rw [if_neg hy, h.look]
        constructor
        · intro hm
          obtain ⟨i, hi⟩ := List.mem_iff_getElem?.1 hm
          refine ⟨i, ?_, hi⟩
          rintro rfl
          rw [hk] at hi
          cases hi
          exact hy h3
        · rintro ⟨i, _, e⟩
          exact List.mem_of_getElem? e
    · rw [eraseIdx_map]
      exact List.Nodup.eraseIdx _ h.nd
theorem Kept.shift {x : Int} {m : Nat} {q : RamS × PoolS} (h : Kept M S L) (F : Shifted M S x m q) : Kept q.1 q.2 L := ⟨F.ok, fun y d => by rw [F.got]; exact h.look y d, h.nd⟩
theorem Kept.read (h : Kept M S L) (x : Int) : Kept (readM M S x) S L := by
  obtain ⟨h1, h2, _⟩ := read_law x h.ok
  exact ⟨h1, fun y d => by rw [h2]; exact h.look y d, h.nd⟩
theorem Kept.new {n : Nat} (h8 : 8 ≤ n) (h96 : n ≤ 96) : Kept (RamS.new n) PoolS.new [] :=
  ⟨PoolOk.new h8 h96, fun x d => by rw [got_none (inb_new x)]; exact ⟨fun h => (by cases h), fun h => (by cases h)⟩, List.nodup_nil⟩
/-- All frames of zspages, one behind the other. -/
def rowsOf (l : List (Nat × PgS)) : List Nat := l.flatMap fun p => p.2.row
theorem rows_nd {pgs : Pgs} (h : PgsOk M pgs) : (rowsOf (sheetsOf pgs 0)).Nodup := by
  have key : ∀ (l : Pgs) (n : Nat), (∀ (i : Nat) (g : PgS), l[i]? = some (some g) → g.row.Nodup) → (∀ (i j : Nat) (g g' : PgS), i ≠ j → l[i]? = some (some g) → l[j]? = some (some g') → ∀ r ∈ g.row, r ∉ g'.row) → (rowsOf (sheetsOf l n)).Nodup := by
    intro l
    induction l with
    | nil => intro n _ _; exact List.nodup_nil
    | cons x l ih =>
      intro n h1 h2
      have ih2 := ih (n + 1) (fun i g hi => h1 (i + 1) g (by simpa using hi)) fun i j g g' hij hi hj => h2 (i + 1) (j + 1) g g' (by omega) (by simpa using hi) (by simpa using hj)
      cases x with
      | none => exact ih2
      | some g =>
        show (rowsOf ((n, g) :: sheetsOf l (n + 1))).Nodup
        unfold rowsOf at ih2 ⊢
        rw [List.flatMap_cons, List.nodup_append]
        refine ⟨h1 0 g rfl, ih2, fun a ha b hb => ?_⟩
        obtain ⟨p, hp, hbp⟩ := List.mem_flatMap.1 hb
        obtain ⟨i, hi, _⟩ := sheetsOf_mem hp
        rintro rfl
        exact h2 0 (i + 1) g p.2 (by omega) rfl (by simpa using hi) _ ha hbp
  exact key pgs 0 (fun i g hi => let ⟨_, hI⟩ := h.pg i g hi; hI.ok.nd) h.apart
end
end Go.Proofs.YtheblkofemobdaaGreat
