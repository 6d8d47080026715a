/-
  Maps keyed by numbers, in the separation logic. No program in sight.
-/
import Derived.Test.YtjbphdjheklhbaaSL2
import Derived.Maps.Own
import Derived.Maps.OwnSet
import Derived.Lib.SlKeysI
namespace Go.Proofs.Ytjbphdjheklhbaa
open Go.RowKit
open Go.MapKept (Stamped IsKey findNow_spec)

structure MFit (es : Array MapEntry) (clock N : Nat) (D : Int → Option Value) : Prop where
  stamped : Stamped es clock
  each : ∀ x ∈ es.toList, ∃ k : Int, x.key = .int .i64 k ∧ 0 ≤ k ∧ k < N ∧ D k = some x.val
  cover : ∀ k v, D k = some v → ∃ x ∈ es.toList, x.key = .int .i64 k
/-- Block b is a map of keys below N: D. -/
def mapZ (b N : Nat) (D : Int → Option Value) : HP := exh fun p : Array MapEntry × Nat => grp [pur (MFit p.1 p.2 N D), pts b (.map p.1 p.2)]

section
variable {P : Program} {e : Env} {w : World} {R : List HP} {b N : Nat} {D : Int → Option Value} {t kt et : TypeId}
theorem mapZ_open (H : Holds e w (mapZ b N D :: R)) : ∃ es clock, MFit es clock N D ∧ Holds e w (pts b (.map es clock) :: R) := by
  obtain ⟨⟨es, clock⟩, h⟩ := Holds.exE H
  have h2 := h.ungrp
  exact ⟨es, clock, h2.purE, h2.drop⟩
theorem mapZ_close {es : Array MapEntry} {clock : Nat} (F : MFit es clock N D) (H : Holds e w (pts b (.map es clock) :: R)) : Holds e w (mapZ b N D :: R) :=
  Holds.mkExh (es, clock) (Holds.mkGrp (L := [pur _, pts _ _]) (Holds.mkPur F H))
theorem MFit.key {es : Array MapEntry} {clock : Nat} (F : MFit es clock N D) {x y : MapEntry} (hx : x ∈ es.toList) (hy : y ∈ es.toList) (h : x.key = y.key) : x = y := by
  have h3 := List.pairwise_map.1 F.stamped.2.2
  obtain ⟨i, hi, e1⟩ := List.getElem_of_mem hx
  obtain ⟨j, hj, e2⟩ := List.getElem_of_mem hy
  have := List.pairwise_iff_getElem.1 h3
  rcases Nat.lt_trichotomy i j with hl | hl | hl
  · exact absurd (by rw [e1, e2]; exact h) (this i j hi hj hl)
  · subst hl; rw [← e1, ← e2]
  · exact absurd (by rw [e1, e2]; exact h.symm) (this j i hj hi hl)
theorem nodup_lenM {l : List Nat} {n : Nat} (hn : l.Nodup) (h : ∀ x ∈ l, x < n) : l.length ≤ n := by
  induction n generalizing l with
  | zero => cases l with
    | nil => exact Nat.le_refl _
    | cons a m => exact absurd (h a (by simp)) (by omega)
  | succ n ih =>
    have h1 := ih (l := l.erase n) (hn.erase n) (fun x hx => by
      have h2 := h x (List.mem_of_mem_erase hx)
      have h3 : x ≠ n := by rintro rfl; exact hn.not_mem_erase hx
      omega)
    have h4 := List.length_erase (l := l) (a := n)
    split at h4 <;> omega
theorem MFit.size {es : Array MapEntry} {clock : Nat} (F : MFit es clock N D) : es.size ≤ N := by
  have h1 : (es.toList.map fun x => match x.key with | .int _ k => k.toNat | _ => 0).Nodup := by
    obtain ⟨_, _, h3⟩ := F.stamped
    refine List.pairwise_map.2 ((List.pairwise_map.1 h3).imp_of_mem fun {x y} hx hy hne he => hne ?_)
    obtain ⟨k, hk, k0, _⟩ := F.each x hx
    obtain ⟨j, hj, j0, _⟩ := F.each y hy
    rw [hk, hj] at he ⊢
    dsimp only at he
    have : k = j := by omega
    rw [this]
  have h2 := nodup_lenM (n := N) h1 fun n hn => by
    obtain ⟨x, hx, rfl⟩ := List.mem_map.1 hn
    obtain ⟨k, hk, k0, k1, _⟩ := F.each x hx
    rw [hk]
    dsimp only
    omega
  simpa using h2

theorem run_findZ (hk : P.underlying kt = some (.int .i64)) (x : Int) (es : Array MapEntry) (hes : ∀ y ∈ es.toList, ∃ k : Int, y.key = .int .i64 k) :
    ((Instr.findKey kt (.int .i64 x) es.toList).run P w = .ok none w ∧ ∀ y ∈ es.toList, y.key ≠ .int .i64 x) ∨
    ∃ j y, (Instr.findKey kt (.int .i64 x) es.toList).run P w = .ok (some (j, y.val)) w ∧ es.toList[j]? = some y ∧ y.key = .int .i64 x := by
  rcases findNow_spec (d := .int .i64) (k := .int .i64 x) rfl es.toList 0 (fun y hy => by obtain ⟨k, hk⟩ := hes y hy; rw [hk]; rfl) with ⟨h1, h2⟩ | ⟨j, y, h1, h2, h3⟩
  · exact .inl ⟨MapKept.run_findKey hk h1, h2⟩
  · rw [Nat.zero_add] at h1
    exact .inr ⟨j, y, MapKept.run_findKey hk h1, h2, h3⟩
theorem checkZ (hk : P.underlying kt = some (.int .i64)) (x : Int) (em : Bool) : (Instr.checkKey em 10000 kt (.int .i64 x)).run P w = .ok () w := MapKept.run_checkKey (d := .int .i64) (k := .int .i64 x) hk rfl em 9999

theorem mapZ_lookup (H : Holds e w (mapZ b N D :: R)) (ht : P.underlying t = some (.map kt et)) (hk : P.underlying kt = some (.int .i64)) {z : Value} (hz : (zeroValue et).run P w = .ok z w) (c : Bool) (x : Int) :
    (Instr.lookup t (.map (some b)) (.int .i64 x) c).run P w = .ok (if c then .tuple #[(D x).getD z, .bool (D x).isSome] else (D x).getD z) w := by
  obtain ⟨es, clock, F, h⟩ := mapZ_open H
  have hb := h.get
  rcases run_findZ (P := P) (w := w) hk x es (fun y hy => by obtain ⟨k, hk, _⟩ := F.each y hy; exact ⟨k, hk⟩) with ⟨h1, h2⟩ | ⟨j, y, h1, h2, h3⟩
  · have hD : D x = none := by
      cases hd : D x with
      | none => rfl
      | some v => obtain ⟨y, hy, hyk⟩ := F.cover x v hd; exact absurd hyk (h2 y hy)
    simp [Instr.lookup, run_underlying ht, MapKept.run_getObj_map hb, checkZ hk, h1, hz, Result.andThen, hD]
  · obtain ⟨k, hk1, _, _, hd⟩ := F.each y (List.mem_of_getElem? h2)
    have : k = x := by rw [h3] at hk1; cases hk1; rfl
    subst this
    simp [Instr.lookup, run_underlying ht, MapKept.run_getObj_map hb, checkZ hk, h1, Result.andThen, hd]

theorem setBlock_holds {es es' : Array MapEntry} {clock clock' : Nat} (h : Holds e w (pts b (.map es clock) :: R)) : Holds e (ChangeMaps.setBlock w b (.map es' clock')) (pts b (.map es' clock') :: R) := by
  obtain ⟨h1, h2⟩ := MapKept.heap_set (o' := .map es' clock') h.get
  exact h.setObj rfl rfl rfl h1 h2

def mput (D : Int → Option Value) (x : Int) (v : Value) : Int → Option Value := fun k => if k = x then some v else D k
def mdel (D : Int → Option Value) (x : Int) : Int → Option Value := fun k => if k = x then none else D k

theorem mapZ_update (H : Holds e w (mapZ b N D :: R)) (ht : P.underlying t = some (.map kt et)) (hk : P.underlying kt = some (.int .i64)) {x : Int} (h0 : 0 ≤ x) (hN : x < N) (v : Value) :
    ∃ w', (Instr.mapUpdate t (.map (some b)) (.int .i64 x) v).run P w = .ok () w' ∧ Holds e w' (mapZ b N (mput D x v) :: R) := by
  obtain ⟨es, clock, F, h⟩ := mapZ_open H
  have hb := h.get
  rcases run_findZ (P := P) (w := w) hk x es (fun y hy => by obtain ⟨k, hk, _⟩ := F.each y hy; exact ⟨k, hk⟩) with ⟨h1, h2⟩ | ⟨j, y, h1, h2, h3⟩
  · refine ⟨ChangeMaps.setBlock w b (.map (es.push ⟨.int .i64 x, v, clock⟩) (clock + 1)), ?_, mapZ_close ⟨MapKept.stamped_push F.stamped h2, ?_, ?_⟩ (setBlock_holds h)⟩
    · simp [Instr.mapUpdate, run_underlying ht, MapKept.run_getObj_map hb, checkZ hk, h1, MapKept.run_setObj_map _ hb, Result.andThen, ChangeMaps.setBlock]
    · intro y hy
      simp only [Array.toList_push, List.mem_append, List.mem_singleton] at hy
      rcases hy with hy | rfl
      · obtain ⟨k, k1, k2, k3, k4⟩ := F.each y hy
        refine ⟨k, k1, k2, k3, ?_⟩
        rw [mput, if_neg (by rintro rfl; exact h2 y hy k1)]
        exact k4
      · exact ⟨x, rfl, h0, hN, by simp [mput]⟩
    · intro k u hku
      unfold mput at hku
      by_cases hkx : k = x
      · subst hkx; exact ⟨⟨.int .i64 k, v, clock⟩, by simp, rfl⟩
      · rw [if_neg hkx] at hku
        obtain ⟨y, hy, hyk⟩ := F.cover k u hku
        exact ⟨y, by simp [hy], hyk⟩
  · have hj : j < es.size := by simpa using (List.getElem?_eq_some_iff.1 h2).1
    have hy : es[j]? = some y := by rw [← Array.getElem?_toList]; exact h2
    have hyj := (Array.getElem?_eq_some_iff.1 hy).2
    have hst : (Instr.keyThatStays y.key (.int .i64 x)).run P w = .ok (.int .i64 x) w := by rw [h3]; exact MapKept.run_keyThatStays (d := .int .i64) rfl
    have hmo : (es.modify j fun z => { z with key := .int .i64 x, val := v }).toList = es.toList.set j ⟨.int .i64 x, v, y.born⟩ := by
      apply List.ext_getElem?
      intro i
      rw [Array.getElem?_toList, Array.getElem?_modify, List.getElem?_set]
      by_cases hij : j = i
      · subst hij; simp [hj, hyj]
      · simp [hij]
    refine ⟨ChangeMaps.setBlock w b (.map (es.modify j fun z => { z with key := .int .i64 x, val := v }) clock), ?_, mapZ_close ⟨?_, ?_, ?_⟩ (setBlock_holds h)⟩
    · simp [Instr.mapUpdate, run_underlying ht, MapKept.run_getObj_map hb, checkZ hk, h1, MapKept.run_setObj_map _ hb, Result.andThen, ChangeMaps.setBlock, hy, hst]
    · obtain ⟨s1, s2, s3⟩ := F.stamped
      have hm : y ∈ es.toList := List.mem_of_getElem? h2
      refine ⟨?_, ?_, ?_⟩
      · intro z hz
        rw [hmo] at hz
        rcases List.mem_or_eq_of_mem_set hz with hz | rfl
        · exact s1 z hz
        · exact s1 y hm
      · have : (es.modify j fun z => { z with key := .int .i64 x, val := v }).toList.map (·.born) = es.toList.map (·.born) := by
          rw [hmo, List.map_set]
          apply List.ext_getElem?
          intro i
          rw [List.getElem?_set]
          split
          · next hij => subst hij; simp [hj, hyj]
          · rfl
        rw [this]; exact s2
      · have : (es.modify j fun z => { z with key := .int .i64 x, val := v }).toList.map (·.key) = es.toList.map (·.key) := by
          rw [hmo, List.map_set]
          apply List.ext_getElem?
          intro i
          rw [List.getElem?_set]
          split
          · next hij => subst hij; simp [hj, hyj, h3]
          · rfl
        rw [this]; exact s3
    · intro z hz
      rw [hmo] at hz
      obtain ⟨i, hi⟩ := List.mem_iff_getElem?.1 hz
      rw [List.getElem?_set] at hi
      by_cases hij : j = i
      · subst hij
        rw [if_pos rfl, if_pos (by simpa using hj)] at hi
        cases hi
        exact ⟨x, rfl, h0, hN, by simp [mput]⟩
      · rw [if_neg hij] at hi
        have hz' := List.mem_of_getElem? hi
        obtain ⟨k, k1, k2, k3, k4⟩ := F.each z hz'
        refine ⟨k, k1, k2, k3, ?_⟩
        rw [mput, if_neg]
        · exact k4
        · rintro rfl
          have := List.pairwise_iff_getElem.1 (List.pairwise_map.1 F.stamped.2.2)
          have e1 : z.key = y.key := k1.trans h3.symm
          obtain ⟨hi1, hi2⟩ := List.getElem?_eq_some_iff.1 hi
          obtain ⟨hj1, hj2⟩ := List.getElem?_eq_some_iff.1 h2
          rcases Nat.lt_or_gt_of_ne hij with hl | hl
          · exact this j i hj1 hi1 hl (by rw [hi2, hj2]; exact e1.symm)
          · exact this i j hi1 hj1 hl (by rw [hi2, hj2]; exact e1)
    · intro k u hku
      unfold mput at hku
      by_cases hkx : k = x
      · subst hkx; exact ⟨⟨.int .i64 k, v, y.born⟩, by rw [hmo]; exact List.mem_iff_getElem?.2 ⟨j, by rw [List.getElem?_set, if_pos rfl, if_pos (by simpa using hj)]⟩, rfl⟩
      · rw [if_neg hkx] at hku
        obtain ⟨z, hz, hzk⟩ := F.cover k u hku
        obtain ⟨i, hi⟩ := List.mem_iff_getElem?.1 hz
        refine ⟨z, ?_, hzk⟩
        rw [hmo]
        refine List.mem_iff_getElem?.2 ⟨i, ?_⟩
        rw [List.getElem?_set, if_neg]
        · exact hi
        · rintro rfl
          rw [h2] at hi
          cases hi
          rw [h3] at hzk
          cases hzk
          exact hkx rfl

theorem mapZ_delete (H : Holds e w (mapZ b N D :: R)) (ht : P.underlying t = some (.map kt et)) (hk : P.underlying kt = some (.int .i64)) (ty : TypeId) (x : Int) :
    ∃ w', (Builtin.delete_ #[t, kt] ty #[.map (some b), .int .i64 x]).run P w = .ok (.tuple #[]) w' ∧ Holds e w' (mapZ b N (mdel D x) :: R) := by
  obtain ⟨es, clock, F, h⟩ := mapZ_open H
  have hb := h.get
  rcases run_findZ (P := P) (w := w) hk x es (fun y hy => by obtain ⟨k, hk, _⟩ := F.each y hy; exact ⟨k, hk⟩) with ⟨h1, h2⟩ | ⟨j, y, h1, h2, h3⟩
  · refine ⟨ChangeMaps.setBlock w b (.map es clock), ?_, mapZ_close ⟨F.stamped, ?_, ?_⟩ (setBlock_holds h)⟩
    · simp [Builtin.delete_, run_underlying ht, MapKept.run_getObj_map hb, checkZ hk, h1, MapKept.run_setObj_map _ hb, Result.andThen, ChangeMaps.setBlock]
    · intro y hy
      obtain ⟨k, k1, k2, k3, k4⟩ := F.each y hy
      exact ⟨k, k1, k2, k3, by rw [mdel, if_neg (by rintro rfl; exact h2 y hy k1)]; exact k4⟩
    · intro k u hku
      unfold mdel at hku
      split at hku
      · cases hku
      · exact F.cover k u hku
  · have hj : j < es.size := by simpa using (List.getElem?_eq_some_iff.1 h2).1
    have hsub : (es.eraseIdxIfInBounds j).toList = es.toList.eraseIdx j := by
      unfold Array.eraseIdxIfInBounds
      rw [dif_pos hj]
      simp
    have hpw := List.pairwise_iff_getElem.1 (List.pairwise_map.1 F.stamped.2.2)
    obtain ⟨hj1, hj2⟩ := List.getElem?_eq_some_iff.1 h2
    have other : ∀ (i : Nat) (z : MapEntry), es.toList[i]? = some z → i ≠ j → z.key ≠ .int .i64 x := by
      intro i z hi hij hzk
      obtain ⟨hi1, hi2⟩ := List.getElem?_eq_some_iff.1 hi
      have e1 : z.key = y.key := hzk.trans h3.symm
      rcases Nat.lt_or_gt_of_ne hij with hl | hl
      · exact hpw i j hi1 hj1 hl (by rw [hi2, hj2]; exact e1)
      · exact hpw j i hj1 hi1 hl (by rw [hi2, hj2]; exact e1.symm)
    refine ⟨ChangeMaps.setBlock w b (.map (es.eraseIdxIfInBounds j) clock), ?_, mapZ_close ⟨MapKept.stamped_erase F.stamped j, ?_, ?_⟩ (setBlock_holds h)⟩
    · simp [Builtin.delete_, run_underlying ht, MapKept.run_getObj_map hb, checkZ hk, h1, MapKept.run_setObj_map _ hb, Result.andThen, ChangeMaps.setBlock]
    · intro z hz
      rw [hsub, List.mem_eraseIdx_iff_getElem?] at hz
      obtain ⟨i, hij, hi⟩ := hz
      obtain ⟨k, k1, k2, k3, k4⟩ := F.each z (List.mem_of_getElem? hi)
      exact ⟨k, k1, k2, k3, by rw [mdel, if_neg (by rintro rfl; exact other i z hi hij k1)]; exact k4⟩
    · intro k u hku
      unfold mdel at hku
      split at hku
      · cases hku
      · next hkx =>
        obtain ⟨z, hz, hzk⟩ := F.cover k u hku
        obtain ⟨i, hi⟩ := List.mem_iff_getElem?.1 hz
        refine ⟨z, ?_, hzk⟩
        rw [hsub, List.mem_eraseIdx_iff_getElem?]
        refine ⟨i, ?_, hi⟩
        rintro rfl
        rw [h2] at hi
        cases hi
        rw [h3] at hzk
        cases hzk
        exact hkx rfl

theorem mapZ_made (H : Holds e w R) (N : Nat) : Holds e (w.alloc (.map #[] 0)) (mapZ w.heap.size N (fun _ => none) :: R) :=
  mapZ_close ⟨MapKept.stamped_empty 0, by simp, by simp⟩ (H.alloc _)

/-- For the library's contracts on a map's keys. -/
theorem mapZ_owns (H : Holds e w (mapZ b N D :: R)) (hk : P.underlying kt = some (.int .i64)) (hN : N ≤ 4611686018427387904) :
    ∃ D0 : DataW Unit, w.ownsMap P kt (fun _ => some (.nil, [])) b N D0 ∧ Maps.size D0 ≤ N ∧ ∀ ss : List Int, ss.Perm (intKeys D0) → ss.Nodup ∧ ∀ x, x ∈ ss ↔ (D x).isSome = true := by
  obtain ⟨es, clock, F, h⟩ := mapZ_open H
  have hsz := F.size
  have hmx : N ≤ maxLen := by unfold maxLen; omega
  have rdz : ∀ x ∈ es.toList, ∃ k : Int, x.key = .int .i64 k ∧ WideElems.rd (H := Unit) P kt (fun _ => some (.nil, [])) x = some (.int .i64 k, .nil) := fun x hx => by
    obtain ⟨k, k1, k2, k3, _⟩ := F.each x hx
    refine ⟨k, k1, ?_⟩
    have hw : (Lit.int .i64 k).wf = true := WalkArith.wf_i64 (by omega)
    unfold WideElems.rd
    rw [k1, Maps.keyOf_int_mk hk hw]
    rfl
  refine ⟨_, ⟨es, clock, h.get, ⟨by omega, F.stamped, fun x hx => let ⟨k, _, h⟩ := rdz x hx; ⟨_, h⟩⟩, hsz, rfl⟩, ?_, ?_⟩
  · show List.length _ ≤ N
    rw [length_sorted]
    simpa using hsz
  · intro ss hss
    have hp : (intKeys (DataW.map ((es.toList.map (WideElems.rg (H := Unit) P kt (fun _ => some (.nil, [])))).foldr DataW.insert []))).Perm (es.toList.map fun x => Go.intOf (WideElems.rg (H := Unit) P kt (fun _ => some (.nil, [])) x).1) := by
      have := (WideShapes.sorted_perm (es.toList.map (WideElems.rg (H := Unit) P kt (fun _ => some (.nil, []))))).map fun p => Go.intOf p.1
      simpa [intKeys, List.map_map, Function.comp_def] using this
    have hq := hss.trans hp
    have hrg : ∀ x ∈ es.toList, ∃ k : Int, x.key = .int .i64 k ∧ Go.intOf (WideElems.rg (H := Unit) P kt (fun _ => some (.nil, [])) x).1 = k := fun x hx => by
      obtain ⟨k, k1, k2⟩ := rdz x hx
      exact ⟨k, k1, by rw [WideElems.rg_of k2]; rfl⟩
    constructor
    · refine hq.nodup_iff.2 (List.pairwise_map.2 ((List.pairwise_map.1 F.stamped.2.2).imp_of_mem fun {x y} hx hy hne he => hne ?_))
      obtain ⟨k, hk1, hk2⟩ := hrg x hx
      obtain ⟨j, hj1, hj2⟩ := hrg y hy
      rw [hk2, hj2] at he
      rw [hk1, hj1, he]
    · intro x
      rw [hq.mem_iff, List.mem_map]
      constructor
      · rintro ⟨y, hy, rfl⟩
        obtain ⟨k, hk1, hk2⟩ := hrg y hy
        obtain ⟨j, hj1, _, _, hj2⟩ := F.each y hy
        have : j = k := by rw [hk1] at hj1; cases hj1; rfl
        subst this
        rw [hk2, hj2]; rfl
      · intro hd
        obtain ⟨v, hv⟩ := Option.isSome_iff_exists.1 hd
        obtain ⟨y, hy, hyk⟩ := F.cover x v hv
        obtain ⟨k, hk1, hk2⟩ := hrg y hy
        have : k = x := by rw [hk1] at hyk; cases hyk; rfl
        exact ⟨y, hy, by rw [hk2, this]⟩
end
end Go.Proofs.Ytjbphdjheklhbaa
