/-
  'for k, v := range m' over a map keyed by numbers, in the separation logic. No program in sight.
-/
import Derived.Test.YtjbphdjheklhbaaMap
import Derived.Test.YtjbphdjheklhbaaRe
import Derived.Maps.RangeRun
namespace Go.Proofs.Ytjbphdjheklhbaa
open Go.RowKit
open Go.MapKept (Stamped IsKey)

structure ItFit (es : Array MapEntry) (clock since c0 : Nat) (seen : Array Nat) (S : List Int) : Prop where
  old : ∀ x ∈ es.toList, x.born < since
  sc : since ≤ c0
  sk : since ≤ clock
  seen : ∀ x ∈ es.toList, ∀ k : Int, x.key = .int .i64 k → (seen.contains x.born = true ↔ k ∈ S)
/-- Block b is a map D, block r goes through it: S has come, cnt are left. -/
def mapIt (b r N : Nat) (D : Int → Option Value) (S : List Int) (cnt : Nat) : HP := exh fun p : (Array MapEntry × Nat) × (Nat × Array Nat × Nat) =>
  grp [pur (MFit p.1.1 p.1.2 N D ∧ ItFit p.1.1 p.1.2 p.2.1 p.2.2.2 p.2.2.1 S ∧ (leftOf p.1.1 p.2.2.1).size = cnt), pts b (.map p.1.1 p.1.2), pts r (.mapIter (some b) p.2.1 p.2.2.1 p.2.2.2)]

section
variable {P : Program} {e : Env} {w : World} {R : List HP} {b r N cnt : Nat} {D : Int → Option Value} {S : List Int} {t kt et : TypeId}
theorem mapIt_open (H : Holds e w (mapIt b r N D S cnt :: R)) : ∃ es clock since seen c0, MFit es clock N D ∧ ItFit es clock since c0 seen S ∧ (leftOf es seen).size = cnt ∧ Holds e w (pts b (.map es clock) :: pts r (.mapIter (some b) since seen c0) :: R) := by
  obtain ⟨⟨⟨es, clock⟩, since, seen, c0⟩, h⟩ := Holds.exE H
  have h2 := h.ungrp
  obtain ⟨h3, h4, h5⟩ := h2.purE
  exact ⟨es, clock, since, seen, c0, h3, h4, h5, h2.drop⟩
theorem mapIt_close {es : Array MapEntry} {clock since c0 : Nat} {seen : Array Nat} (F : MFit es clock N D) (G : ItFit es clock since c0 seen S) (hc : (leftOf es seen).size = cnt) (H : Holds e w (pts b (.map es clock) :: pts r (.mapIter (some b) since seen c0) :: R)) : Holds e w (mapIt b r N D S cnt :: R) :=
  Holds.mkExh ((es, clock), since, seen, c0) (Holds.mkGrp (L := [pur _, pts _ _, pts _ _]) (Holds.mkPur ⟨F, G, hc⟩ H))
theorem mapIt_end (H : Holds e w (mapIt b r N D S cnt :: R)) : Holds e w (mapZ b N D :: R) := by
  obtain ⟨es, clock, since, seen, c0, F, _, _, h⟩ := mapIt_open H
  exact mapZ_close F h.d1
theorem mapIt_left (H : Holds e w (mapIt b r N D S cnt :: R)) : w.rangeLeft b r = cnt := by
  obtain ⟨es, clock, since, seen, c0, F, _, hc, h⟩ := mapIt_open H
  simp only [World.rangeLeft, h.get, h.swap.get]
  exact hc
theorem mapIt_start (H : Holds e w (mapZ b N D :: R)) (ht : P.underlying t = some (.map kt et)) :
    ∃ w' cnt, (Instr.range t (.map (some b))).run P w = .ok (.pointer (some ⟨w.heap.size, 0, none⟩)) w' ∧ Holds e w' (mapIt b w.heap.size N D [] cnt :: R) := by
  obtain ⟨es, clock, F, h⟩ := mapZ_open H
  have h1 := h.alloc (.mapIter (some b) clock #[] clock)
  exact ⟨_, _, run_range_map w t kt et b es clock ht h.get, mapIt_close F ⟨F.stamped.1, Nat.le_refl _, Nat.le_refl _, by simp⟩ rfl h1.swap⟩
theorem mapIt_next (H : Holds e w (mapIt b r N D S cnt :: R)) (ty : TypeId) :
    ((∀ k, (D k).isSome = true → k ∈ S) ∧ (Instr.next (.pointer (some ⟨r, 0, none⟩)) false ty).run P w = .ok (.tuple #[.bool false]) w) ∨
    ∃ (k : Int) (v : Value) (w' : World) (cnt' : Nat), D k = some v ∧ k ∉ S ∧ 0 ≤ k ∧ k < N ∧ cnt' < cnt ∧ (Instr.next (.pointer (some ⟨r, 0, none⟩)) false ty).run P w = .ok (.tuple #[.bool true, .int .i64 k, v]) w' ∧
      Holds e w' (mapIt b r N D (S ++ [k]) cnt' :: R) ∧ (Instr.entry (.pointer (some ⟨r, 0, none⟩))).run P w' = .ok (.tuple #[.int .i64 k, v]) w' := by
  obtain ⟨es, clock, since, seen, c0, F, G, hc, h⟩ := mapIt_open H
  rcases run_next_at (P := P) w ty r b since c0 seen es clock h.swap.get h.get G.old G.sc with ⟨h0, hrun⟩ | ⟨x, hx, w1, hal, hrun⟩
  · refine .inl ⟨fun k hk => ?_, hrun⟩
    obtain ⟨v, hv⟩ := Option.isSome_iff_exists.1 hk
    obtain ⟨y, hy, hyk⟩ := F.cover k v hv
    exact (G.seen y hy k hyk).1 (all_seen es seen h0 y hy)
  · obtain ⟨hxe, hns⟩ := mem_left hx
    obtain ⟨k, hk, k0, k1, hD⟩ := F.each x hxe
    have hkS : k ∉ S := fun hm => by rw [(G.seen x hxe k hk).2 hm] at hns; cases hns
    have h1 : Holds e w1 (pts b (.map es clock) :: pts r (.mapIter (some b) since seen c0) :: R) := by
      rcases hal with rfl | rfl
      · exact h
      · exact h.drew
    have hset := MapKept.heap_set (o' := Obj.mapIter (some b) since (seen.push x.born) clock) h1.swap.get
    have h2 : Holds e (ChangeMaps.setBlock w1 r (.mapIter (some b) since (seen.push x.born) clock)) (pts b (.map es clock) :: pts r (.mapIter (some b) since (seen.push x.born) clock) :: R) := Holds.swap (Holds.setObj (w' := ChangeMaps.setBlock w1 r (.mapIter (some b) since (seen.push x.born) clock)) h1.swap rfl rfl rfl hset.1 hset.2)
    rw [hk] at hrun
    refine .inr ⟨k, x.val, _, _, hD, hkS, k0, k1, ?_, hrun, mapIt_close F ⟨G.old, G.sk, G.sk, ?_⟩ rfl h2, ?_⟩
    · rw [← hc]; exact left_shrinks es seen x hx
    · intro y hy j hj
      rw [contains_push, Bool.or_eq_true, G.seen y hy j hj, List.mem_append, List.mem_singleton, beq_iff_eq]
      refine or_congr_right ⟨fun hb => ?_, fun hjk => ?_⟩
      · have : y = x := born_inj F.stamped.2.1 hy hxe (by first | exact hb | exact hb.symm)
        subst this
        rw [hk] at hj; cases hj; rfl
      · subst hjk
        have : y = x := F.key hy hxe (hj.trans hk.symm)
        rw [this]
    · rw [← hk]
      exact run_entry_at _ r b since seen es clock x h2.swap.get h2.get hxe F.stamped.2.1
end
end Go.Proofs.Ytjbphdjheklhbaa
