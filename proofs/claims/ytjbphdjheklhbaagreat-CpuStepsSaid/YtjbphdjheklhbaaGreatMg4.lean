import Derived.Test.YtjbphdjheklhbaaGreatMg0
import Derived.Maps.RangeRun
import Derived.Test.YtjbphdjheklhbaaGreatLayS
import Derived.Sort.OwnSortedInts
import Derived.Shelf.Sort.Plain
import Derived.Shelf.Slices.In.SortNone
import Derived.Test.YtjbphdjheklhbaaGreatMg1
import Derived.Test.YtjbphdjheklhbaaGreatMg2
import Derived.Deep.RegionHeld3
/-
  'for k, v := range m' over a map keyed by numbers, in the separation logic. No program in sight.
-/
namespace Go.Proofs.YtjbphdjheklhbaaGreat
open Go.RowKit
open Go.MapKept (Stamped IsKey)

structure ItFit (es : Array MapEntry) (clock since c0 : Nat) (seen : Array Nat) (S : List Int) : Prop where
  old : ∀ x ∈ es.toList, x.born < since
  sc : since ≤ c0
  sk : since ≤ clock
  seen : ∀ x ∈ es.toList, ∀ k : Int, x.key = .int .i64 k → (seen.contains x.born = true ↔ k ∈ S)
/-- Block b is a map D, block r goes through it: S has come, cnt are left. -/
def mapIt (b r N : Nat) (D : Int → Option Value) (S : List Int) (cnt : Nat) : HP := exh fun p : (Array MapEntry × Nat) × (Nat × Array Nat × Nat) =>
  grp [pur (MFit p.1.1 p.1.2 N D ∧ ItFit p.1.1 p.1.2 p.2.1 p.2.2.2 p.2.2.1 S ∧ (leftOf p.1.1 p.2.2.1).size = cnt), pts b (.map p.1.1 p.1.2), pts r (.mapIter (some b) p.2.1 p.2.2.1 p.2.2.2)]

section
variable {P : Program} {e : Env} {w : World} {R : List HP} {b r N cnt : Nat} {D : Int → Option Value} {S : List Int} {t kt et : TypeId}
theorem mapIt_open (H : Holds e w (mapIt b r N D S cnt :: R)) : ∃ es clock since seen c0, MFit es clock N D ∧ ItFit es clock since c0 seen S ∧ (leftOf es seen).size = cnt ∧ Holds e w (pts b (.map es clock) :: pts r (.mapIter (some b) since seen c0) :: R) := by
  obtain ⟨⟨⟨es, clock⟩, since, seen, c0⟩, h⟩ := Holds.exE H
  have h2 := h.ungrp
  obtain ⟨h3, h4, h5⟩ := h2.purE
  exact ⟨es, clock, since, seen, c0, h3, h4, h5, h2.drop⟩
theorem mapIt_close {es : Array MapEntry} {clock since c0 : Nat} {seen : Array Nat} (F : MFit es clock N D) (G : ItFit es clock since c0 seen S) (hc : (leftOf es seen).size = cnt) (H : Holds e w (pts b (.map es clock) :: pts r (.mapIter (some b) since seen c0) :: R)) : Holds e w (mapIt b r N D S cnt :: R) :=
  Holds.mkExh ((es, clock), since, seen, c0) (Holds.mkGrp (L := [pur _, pts _ _, pts _ _]) (Holds.mkPur ⟨F, G, hc⟩ H))
theorem mapIt_end (H : Holds e w (mapIt b r N D S cnt :: R)) : Holds e w (mapZ b N D :: R) := by
  obtain ⟨es, clock, since, seen, c0, F, _, _, h⟩ := mapIt_open H
  exact mapZ_close F h.d1
theorem mapIt_left (H : Holds e w (mapIt b r N D S cnt :: R)) : w.rangeLeft b r = cnt := by
  obtain ⟨es, clock, since, seen, c0, F, _, hc, h⟩ := mapIt_open H
  simp only [World.rangeLeft, h.get, h.swap.get]
  exact hc
theorem mapIt_start (H : Holds e w (mapZ b N D :: R)) (ht : P.underlying t = some (.map kt et)) :
    ∃ w' cnt, (Instr.range t (.map (some b))).run P w = .ok (.pointer (some ⟨w.heap.size, 0, none⟩)) w' ∧ Holds e w' (mapIt b w.heap.size N D [] cnt :: R) := by
  obtain ⟨es, clock, F, h⟩ := mapZ_open H
  have h1 := h.alloc (.mapIter (some b) clock #[] clock)
  exact ⟨_, _, run_range_map w t kt et b es clock ht h.get, mapIt_close F ⟨F.stamped.1, Nat.le_refl _, Nat.le_refl _, by simp⟩ rfl h1.swap⟩
theorem mapIt_next (H : Holds e w (mapIt b r N D S cnt :: R)) (ty : TypeId) :
    ((∀ k, (D k).isSome = true → k ∈ S) ∧ (Instr.next (.pointer (some ⟨r, 0, none⟩)) false ty).run P w = .ok (.tuple #[.bool false]) w) ∨
    ∃ (k : Int) (v : Value) (w' : World) (cnt' : Nat), D k = some v ∧ k ∉ S ∧ 0 ≤ k ∧ k < N ∧ cnt' < cnt ∧ (Instr.next (.pointer (some ⟨r, 0, none⟩)) false ty).run P w = .ok (.tuple #[.bool true, .int .i64 k, v]) w' ∧
      Holds e w' (mapIt b r N D (S ++ [k]) cnt' :: R) ∧ (Instr.entry (.pointer (some ⟨r, 0, none⟩))).run P w' = .ok (.tuple #[.int .i64 k, v]) w' := by
  obtain ⟨es, clock, since, seen, c0, F, G, hc, h⟩ := mapIt_open H
  rcases run_next_at (P := P) w ty r b since c0 seen es clock h.swap.get h.get G.old G.sc with ⟨h0, hrun⟩ | ⟨x, hx, w1, hal, hrun⟩
  · refine .inl ⟨fun k hk => ?_, hrun⟩
    obtain ⟨v, hv⟩ := Option.isSome_iff_exists.1 hk
    obtain ⟨y, hy, hyk⟩ := F.cover k v hv
    exact (G.seen y hy k hyk).1 (all_seen es seen h0 y hy)
  · obtain ⟨hxe, hns⟩ := mem_left hx
    obtain ⟨k, hk, k0, k1, hD⟩ := F.each x hxe
    have hkS : k ∉ S := fun hm => by rw [(G.seen x hxe k hk).2 hm] at hns; cases hns
    have h1 : Holds e w1 (pts b (.map es clock) :: pts r (.mapIter (some b) since seen c0) :: R) := by
      rcases hal with rfl | rfl
      · exact h
      · exact h.drew
    have hset := MapKept.heap_set (o' := Obj.mapIter (some b) since (seen.push x.born) clock) h1.swap.get
    have h2 : Holds e (ChangeMaps.setBlock w1 r (.mapIter (some b) since (seen.push x.born) clock)) (pts b (.map es clock) :: pts r (.mapIter (some b) since (seen.push x.born) clock) :: R) := Holds.swap (Holds.setObj (w' := ChangeMaps.setBlock w1 r (.mapIter (some b) since (seen.push x.born) clock)) h1.swap rfl rfl rfl hset.1 hset.2)
    rw [hk] at hrun
    refine .inr ⟨k, x.val, _, _, hD, hkS, k0, k1, ?_, hrun, mapIt_close F ⟨G.old, G.sk, G.sk, ?_⟩ rfl h2, ?_⟩
    · rw [← hc]; exact left_shrinks es seen x hx
    · intro y hy j hj
      rw [contains_push, Bool.or_eq_true, G.seen y hy j hj, List.mem_append, List.mem_singleton, beq_iff_eq]
      refine or_congr_right ⟨fun hb => ?_, fun hjk => ?_⟩
      · have : y = x := born_inj F.stamped.2.1 hy hxe (by first | exact hb | exact hb.symm)
        subst this
        rw [hk] at hj; cases hj; rfl
      · subst hjk
        have : y = x := F.key hy hxe (hj.trans hk.symm)
        rw [this]
    · rw [← hk]
      exact run_entry_at _ r b since seen es clock x h2.swap.get h2.get hxe F.stamped.2.1
end
end Go.Proofs.YtjbphdjheklhbaaGreat

/-
  slices.Sort of whole numbers that are owned, in the separation logic.
-/
namespace Go.Proofs.YtjbphdjheklhbaaGreat
open Go.RowKit

section
variable {e : Env} {w w' : World} {R A : List HP}
/-- A block written, new ones laid. -/
theorem Holds.but1 {g : Nat} {o o' : Obj} (H : Holds e w (pts g o :: A)) (h1 : w'.os = w.os) (h2 : w'.output = w.output) (h3 : w'.tape = w.tape) (hg : w'.heap[g]? = some o') (hk : ∀ k, k < w.heap.size → k ≠ g → w'.heap[k]? = w.heap[k]?) : Holds e w' (pts g o' :: A) := by
  obtain ⟨p, q, r, f1, f2, d, e1, e2, x, s⟩ := H
  have h2b : f2 g = none := by
    rcases d g with y | y
    · rw [show f1 g = some o from x] at y; cases y
    · exact y
  refine ⟨h1.trans p, h2.trans q, h3.trans r, fun k => if k = g then some o' else none, f2, ?_, ?_, ?_, by simp [pts], s⟩
  · intro b
    by_cases hb : b = g
    · right; subst hb; exact h2b
    · left; simp [hb]
  · intro b u y
    by_cases hb : b = g
    · subst hb; simp at y; subst y; exact hg
    · simp [hb] at y
  · intro b u y
    have hne : b ≠ g := by rintro rfl; rw [h2b] at y; cases y
    have hw := e2 b u y
    exact (hk b (Array.getElem?_eq_some_iff.1 hw).1 hne).trans hw
theorem slSort {v : Value} {l : List Int} (hl : l.length ≤ 1000000000000) (H : Holds e w (row v 3 1 l.length (ints l) :: R)) :
    Calls Tryz.prog 66 #[v] w (Ret e (.tuple #[]) (row v 3 1 l.length (ints (l.mergeSort fun x y => decide (x ≤ y))) :: R)) := by
  rcases (row.open H).2 with ⟨rfl, h0⟩ | ⟨g, cap, cur, rfl, h1, h2, h3, h4, h5⟩
  · obtain rfl : l = [] := List.eq_nil_of_length_eq_zero h0
    have hcon := Any.slices_Sort_int_none Tryz.sortL none 0 w
    change Calls Tryz.prog 66 _ _ _ at hcon
    refine hcon.mono ?_
    rintro en w1 ⟨rfl, rfl⟩
    exact ⟨rfl, by simpa using H⟩
  · rw [Nat.mul_one] at h3 h4
    have hH := holds_of_blockI (ss := l) h5.get h4
    have hcon := Any.slices_Sort_int Tryz.sortL g 0 cap l w hH h5.lt (by omega)
    change Calls Tryz.prog 66 _ _ _ at hcon
    refine hcon.mono ?_
    rintro en w1 ⟨rfl, n, os, rfl⟩
    have hs : (l.mergeSort fun x y => decide (x ≤ y)).length = l.length := List.length_mergeSort l
    generalize (l.mergeSort fun x y => decide (x ≤ y)) = s at *
    have h6 := h5.but1 (w' := Go.Sort.grow (Go.Sort.putRow (Value.int .i64) (Go.Sort.ahead w n) g 0 s.toArray) os) rfl rfl rfl (heap_sortedI s.toArray h5.get) (fun k hk hne => by
      rw [Go.Sort.heap_grow_old _ _ (by simpa using hk)]
      simp [Go.Sort.putRow, Go.Sort.mapBlock, Go.Sort.ahead, Array.getElem?_modify, Ne.symm hne])
    refine ⟨rfl, row.made (n := l.length) (cap := cap) (size := 1) (xs := ints s) h6 h1 h2 (by simp [Go.Sort.putCells, h3]) ?_⟩
    rw [Nat.mul_one, ← hs]
    have := take_putCellsI cur s (by omega)
    simpa [ints] using this
end
end Go.Proofs.YtjbphdjheklhbaaGreat

/-
  Package model: numbers.
-/
namespace Go.Proofs.YtjbphdjheklhbaaGreat
open Go.RowKit

def pgNums (M : List Pg) : List Int := M.map fun x => (x.pg : Int)
theorem len_le {S : List Int} {N : Nat} (hn : S.Nodup) (h : ∀ k ∈ S, 0 ≤ k ∧ k < N) : S.length ≤ N := by
  have := nodup_lenM (l := S.map Int.toNat) (n := N) (List.pairwise_map.2 (hn.imp_of_mem fun {a b} ha hb hab => by
    have h1 := h a ha; have h2 := h b hb; omega)) (fun x hx => by
    obtain ⟨a, ha, rfl⟩ := List.mem_map.1 hx
    have h1 := h a ha; omega)
  simpa using this
theorem look_some {M : List Pg} {k : Int} : (look M k).isSome = true ↔ k ∈ pgNums M := by
  unfold look pgNums
  constructor
  · intro h
    split at h
    · next h0 =>
      rw [Option.isSome_map] at h
      obtain ⟨x, hx⟩ := Option.isSome_iff_exists.1 h
      obtain ⟨i, hi, hq⟩ := fnd_at hx
      exact List.mem_map.2 ⟨x, List.mem_of_getElem? hi, by omega⟩
    · cases h
  · intro h
    obtain ⟨x, hx, rfl⟩ := List.mem_map.1 h
    rw [if_pos (by omega), Option.isSome_map, Int.toNat_natCast]
    unfold fnd
    rw [List.find?_isSome]
    exact ⟨x, hx, by simp⟩
theorem ModOk.nums {M : List Pg} (h : ModOk M) : (pgNums M).Nodup ∧ (∀ k ∈ pgNums M, 0 ≤ k ∧ k < (68719476736 : Nat)) ∧ (pgNums M).Pairwise (fun a b => decide (a ≤ b) = true) := by
  refine ⟨List.pairwise_map.2 (h.rise.imp fun {a b} hab => by omega), fun k hk => ?_, List.pairwise_map.2 (h.rise.imp fun {a b} hab => by simp; omega)⟩
  obtain ⟨x, hx, rfl⟩ := List.mem_map.1 hk
  have := h.lt x hx
  omega
theorem ModOk.sorted {M : List Pg} (h : ModOk M) {S : List Int} (hn : S.Nodup) (hS : ∀ k ∈ S, (look M k).isSome = true) (hA : ∀ k, (look M k).isSome = true → k ∈ S) : (S.mergeSort fun x y => decide (x ≤ y)) = pgNums M ∧ S.length = M.length := by
  obtain ⟨h1, _, h3⟩ := h.nums
  have hp : S.Perm (pgNums M) := (List.perm_ext_iff_of_nodup hn h1).2 fun k => ⟨fun hk => look_some.1 (hS k hk), fun hk => hA k (look_some.2 hk)⟩
  refine ⟨?_, by have := hp.length_eq; simpa [pgNums] using this⟩
  have e1 := mergeSort_of_perm_i hp
  have e2 := List.mergeSort_of_pairwise h3
  exact e1.trans e2
section
variable {e : Env} {w : World} {R : List HP} {m : Nat} {M : List Pg}
set_option maxRecDepth 100000 in
set_option maxHeartbeats 1000000 in
theorem modNumbers (H : Holds e w (modH m M :: R)) : Calls Tryz.prog 39 #[.pointer (some ⟨m, 0, none⟩)] w
    (RetEx e (fun v : Value => v) (fun v => row v 3 1 M.length (ints (pgNums M)) :: modH m M :: R)) := by
  obtain ⟨mb, hO, HY⟩ := mod_open H
  have c0 : w.cell? ⟨m, 0, none⟩ = some (.map (some mb)) := HY.cells 0
  obtain ⟨w1, cnt0, hrun, H1⟩ := mapIt_start (P := Tryz.prog) (t := 78) (kt := 3) (et := 105) HY.swap (by kernel_rfl)
  obtain ⟨r, hr⟩ : ∃ r, w.heap.size = r := ⟨_, rfl⟩
  rw [hr] at hrun H1
  have HO := Lib.hid hO
  clear H HY hO
  go_enter Tryz.func39, Tryz.ntmps39
  go_wp2_with fail
  go_loopw [3, 4] (fun l _ wr => ∃ (S : List Int) (cnt : Nat) (v : Value), v = l ∧ Hid (S.Nodup ∧ ∀ k ∈ S, (look M k).isSome = true) ∧ Holds e wr (row v 3 1 S.length (ints S) :: mapIt mb r 68719476736 (look M) S cnt :: pts m (modObj mb) :: all pageH M :: R)) (fun _ _ wr => wr.rangeLeft mb r)
  case atStart => exact ⟨[], cnt0, _, rfl, Lib.hid ⟨List.nodup_nil, by simp⟩, row.nil _ 1 H1⟩
  case round =>
    clear H1 hrun c0
    obtain ⟨S, cnt, v, rfl, hS, HX⟩ := hrel
    have hleft := mapIt_left HX.swap
    rcases mapIt_next (P := Tryz.prog) HX.swap 0 with ⟨hall, hn⟩ | ⟨k, pv, w2, cnt2, hD, hkS, k0, k1, hlt, hn, H2, hen⟩
    · obtain ⟨hs1, hs2⟩ := HO.out.sorted hS.out.1 hS.out.2 hall
      have hlen := len_le hS.out.1 (N := 68719476736) fun k hk => (HO.out.nums).2.1 k (look_some.1 (hS.out.2 k hk))
      have cS := Lib.hid (slSort (by omega) HX)
      have HF : Hid (∀ w', Holds e w' (row v 3 1 S.length (ints (S.mergeSort fun x y => decide (x ≤ y))) :: mapIt mb r 68719476736 (look M) S cnt :: pts m (modObj mb) :: all pageH M :: R) → Holds e w' (row v 3 1 M.length (ints (pgNums M)) :: modH m M :: R)) := Lib.hid fun w' h => by
        rw [hs1, hs2] at h
        exact (mod_close HO.out ((mapIt_end h.swap).re 4 [2, 0, 3, 1])).swap
      clear HX hall hs1 hs2 hlen hleft
      go_wp2_with fail
      refine cS.out.mono ?_
      rintro en w3 ⟨rfl, H3⟩
      have H4 := Lib.hid (HF.out _ H3)
      clear cS H3
      go_wp2_with fail
      go_ret
      exact ⟨v, rfl, H4.out⟩
    · have hS2 : Hid ((S ++ [k]).Nodup ∧ ∀ j ∈ S ++ [k], (look M j).isSome = true) := Lib.hid (by
        refine ⟨List.nodup_append.2 ⟨hS.out.1, by simp, fun a ha b hb => ?_⟩, fun j hj => ?_⟩
        · rw [List.mem_singleton] at hb; subst hb; rintro rfl; exact hkS ha
        · rcases List.mem_append.1 hj with h | h
          · exact hS.out.2 j h
          · rw [List.mem_singleton] at h; subst h; rw [hD]; rfl)
      have hlen := len_le hS.out.1 (N := 68719476736) fun k hk => (HO.out.nums).2.1 k (look_some.1 (hS.out.2 k hk))
      have HA : Holds e (w2.alloc (.cells #[.int .i64 k] 3)) (row v 3 1 S.length (ints S) :: mapIt mb r 68719476736 (look M) (S ++ [k]) cnt2 :: pts m (modObj mb) :: all pageH M :: R) := (H2.swap.alloc _).drop
      have HRL := reads_lit1 w2 (.int .i64 k) 3
      have HLE := Lib.hid (show cnt2 < wr.rangeLeft mb r by rw [hleft]; exact hlt)
      clear HX H2 hD hkS hS hleft hlt
      generalize hn1 : S.length = n1 at *
      go_wp2_with (at_builtin; refine wpList_append_sl rfl (.tmp 16) _ _ rfl 3 1 8 elem_int v n1 (ints S) rfl HA (.slice (some ⟨w2.heap.size, 0, none⟩) 1 1) 1 [.int .i64 k] rfl HRL (by simp [Value.oneCell']) ?_ ?_ ?_)
      · unfold maxLen; omega
      · omega
      intro v5 w5 H5
      have H6 : Hid (Holds e w5 (row v5 3 1 (S ++ [k]).length (ints (S ++ [k])) :: mapIt mb r 68719476736 (look M) (S ++ [k]) cnt2 :: pts m (modObj mb) :: all pageH M :: R)) := Lib.hid (by
        rw [ints_append, List.length_append, hn1]
        exact H5)
      clear HA HRL H5 hn1
      go_wp2_with fail
      go_roundw
      case rel => exact ⟨S ++ [k], cnt2, v5, rfl, hS2, H6.out⟩
      case measure => rw [mapIt_left H6.out.swap]; exact HLE.out
end
end Go.Proofs.YtjbphdjheklhbaaGreat

/-
  Package model: Pages.
-/
namespace Go.Proofs.YtjbphdjheklhbaaGreat
open Go.RowKit

/-- The pages as they are told: told in these values. -/
def toldP : List Pg → List Value → List PgV
  | x :: M, d :: ds => ⟨upA (4096 * x.pg), x.perm, d, x.bs⟩ :: toldP M ds
  | _, _ => []
theorem toldP_length : ∀ {M : List Pg} {ds : List Value}, ds.length = M.length → (toldP M ds).length = M.length
  | [], _, _ => by simp [toldP]
  | _ :: _, [], h => by simp at h
  | x :: M, d :: ds, h => by simp [toldP, toldP_length (M := M) (ds := ds) (by simpa using h)]
theorem toldP_snoc : ∀ {M : List Pg} {ds : List Value}, ds.length = M.length → ∀ (x : Pg) (d : Value), toldP (M ++ [x]) (ds ++ [d]) = toldP M ds ++ [⟨upA (4096 * x.pg), x.perm, d, x.bs⟩]
  | [], [], _, _, _ => rfl
  | [], _ :: _, h, _, _ => by simp at h
  | _ :: _, [], h, _, _ => by simp at h
  | y :: M, c :: ds, h, x, d => by
    have := toldP_snoc (M := M) (ds := ds) (by simpa using h) x d
    simp [toldP, this]
theorem toldP_key : ∀ {M : List Pg} {ds : List Value}, ds.length = M.length → (toldP M ds).map PgV.key = M.map fun x => (upA (4096 * x.pg), x.perm, x.bs)
  | [], _, _ => by simp [toldP]
  | _ :: _, [], h => by simp at h
  | x :: M, d :: ds, h => by
    have := toldP_key (M := M) (ds := ds) (by simpa using h)
    simp [toldP, this, PgV.key]
theorem fnd_mem {M : List Pg} (h : ModOk M) {k : Nat} {x : Pg} (hx : M[k]? = some x) : fnd M x.pg = some x := by
  have h1 : (fnd M x.pg).isSome = true := by
    unfold fnd
    rw [List.find?_isSome]
    exact ⟨x, List.mem_of_getElem? hx, by simp⟩
  obtain ⟨y, hy⟩ := Option.isSome_iff_exists.1 h1
  obtain ⟨i, hi, hq⟩ := fnd_at hy
  obtain ⟨a1, a2⟩ := List.getElem?_eq_some_iff.1 hi
  obtain ⟨b1, b2⟩ := List.getElem?_eq_some_iff.1 hx
  have hp := List.pairwise_iff_getElem.1 h.rise
  rcases Nat.lt_trichotomy i k with hl | hl | hl
  · have := hp i k a1 b1 hl; rw [a2, b2] at this; omega
  · subst hl; rw [hy, ← a2, ← b2]
  · have := hp k i b1 a1 hl; rw [a2, b2] at this; omega
def toldH (q : PgV) : HP := bts q.d q.bs
theorem elem_page : ElemOf Tryz.prog 64 100 3 40 := ElemOf.mk (z := .agg #[.int .u64 0, .int .i64 0, .slice none 0 0]) (by kernel_rfl) (by kernel_rfl) rfl (by decide)
section
variable {e : Env} {w : World} {R : List HP} {m : Nat} {M : List Pg}
theorem mod_len (h : ModOk M) : M.length ≤ 68719476736 := by
  have := len_le h.nums.1 h.nums.2.1
  simpa [pgNums] using this
set_option maxRecDepth 100000 in
set_option maxHeartbeats 2000000 in
theorem modPages (H : Holds e w (modH m M :: R)) : Calls Tryz.prog 23 #[.pointer (some ⟨m, 0, none⟩)] w
    (RetEx e (fun x : Value × List Value => x.1) (fun x => pur (x.2.length = M.length) :: row x.1 100 3 M.length ((toldP M x.2).flatMap PgV.cells) :: all toldH (toldP M x.2) :: modH m M :: R)) := by
  have CN := Lib.hid (modNumbers H)
  obtain ⟨mb, hO, _⟩ := mod_open H
  have hlen := mod_len hO
  have HO := Lib.hid hO
  obtain ⟨n, hn⟩ : ∃ n, M.length = n := ⟨_, rfl⟩
  rw [hn] at hlen CN ⊢
  have HN := Lib.hid hn
  clear H hO hn
  go_enter Tryz.func23, Tryz.ntmps23
  go_wp2_with fail
  refine CN.out.mono ?_
  rintro en w1 ⟨nv, rfl, H1⟩
  clear CN
  obtain ⟨na, nc, rfl⟩ := row_shape H1
  go_wp2_with fail
  go_loopw [3, 5, 6, 10] (fun o _ _ i wr => ∃ (k : Nat) (ds : List Value) (v : Value), v = o ∧ k ≤ n ∧ i = .int .i64 (k : Nat) ∧ Hid (ds.length = k) ∧ Holds e wr (row v 100 3 k ((toldP (M.take k) ds).flatMap PgV.cells) :: all toldH (toldP (M.take k) ds) :: row (.slice na n nc) 3 1 n (ints (pgNums M)) :: modH m M :: R)) (fun _ _ _ i _ => n - (Go.RowKit.intOf i).toNat)
  case atStart => exact ⟨0, [], _, rfl, by omega, rfl, Lib.hid rfl, row.nil _ 3 (Holds.allNil H1)⟩
  case round =>
    clear H1
    obtain ⟨k, ds, v, rfl, hk, rfl, hds, HX⟩ := hrel
    by_cases hlt : k < n
    · obtain ⟨x, hx⟩ : ∃ x, M[k]? = some x := ⟨_, List.getElem?_eq_getElem (by rw [HN.out]; exact hlt)⟩
      obtain ⟨mb, hO, HY0⟩ := mod_open (HX.re 4 [3, 0, 1, 2])
      have hxm := List.mem_of_getElem? hx
      have hxl := hO.lt x hxm
      have hbl := hO.len x hxm
      have hE := eachS_of (fnd_mem hO hx) hx HY0
      obtain ⟨e1, e2, e3⟩ := hE
      have HY := mod_at hx HY0
      have e4 : wr.cell? ⟨x.pb, 0, none⟩ = some (.int .i64 x.perm) := HY.cells 0
      obtain ⟨g, o, rfl, rr⟩ := (row.reads HX.p2).at (by omega)
      have e5 := rr k _ (ints_get (x := (x.pg : Int)) (by unfold pgNums; rw [List.getElem?_map, hx]; rfl))
      have CA : Hid (∀ w' X, Holds e w' X → Calls Tryz.prog 40 #[.int .i64 x.pg] w' (Ret e (.int .u64 (upA (4096 * x.pg))) X)) := Lib.hid fun w' X h' => retQ (vaAt x.pg hxl) h'
      have CC : Hid (∀ w' X, Holds e w' (pts x.pb (pgObj x) :: pts x.gb (bsObj x) :: X) → Calls Tryz.prog 41 #[.slice (some ⟨x.gb, 0, none⟩) 4096 4096] w'
          (RetEx e (fun p : Option Addr × Nat => .slice p.1 4096 p.2) (fun p => bts (.slice p.1 4096 p.2) x.bs :: pts x.pb (pgObj x) :: pts x.gb (bsObj x) :: X))) := Lib.hid fun w' X h' => by
        have hcl := slClone (R := pts x.pb (pgObj x) :: pts x.gb (bsObj x) :: X) x.bs (by omega) ⟨x.gb, 0, none⟩ 4096 (fun w'' g => ?_) h'
        · rw [hbl] at hcl
          refine hcl.mono ?_
          rintro en w'' ⟨cv, rfl, h2⟩
          obtain ⟨ca, cc, rfl⟩ := (bts.reads h2).shape
          rw [hbl] at h2 ⊢
          exact ⟨(ca, cc), rfl, h2⟩
        · refine ⟨by simp, .inr ⟨_, _, rfl, by omega, fun j u hj => ?_⟩⟩
          rw [Addr.add_at, Nat.zero_add, Holds.cells (c := (u8v x.bs).toArray) g.drop]
          simpa using hj
      have HK : Hid (∀ w' X, Holds e w' (pts x.pb (pgObj x) :: X) → w'.cell? ⟨x.pb, 0, none⟩ = some (.int .i64 x.perm) ∧ w'.cell? ⟨x.pb, 1, none⟩ = some (.slice (some ⟨x.gb, 0, none⟩) 4096 4096)) := Lib.hid fun w' X h' => ⟨h'.cells 0, h'.cells 1⟩
      obtain ⟨A0, hA0⟩ : ∃ A0, upA (4096 * x.pg) = A0 := ⟨_, rfl⟩
      rw [hA0] at CA
      have HEND : Hid (∀ (w' : World) (v' : Value) (p : Option Addr × Nat), Holds e w' (row v' 100 3 (k + 1) ((toldP (M.take k) ds).flatMap PgV.cells ++ [.int .u64 A0, .int .i64 x.perm, .slice p.1 4096 p.2]) :: bts (.slice p.1 4096 p.2) x.bs :: pts x.pb (pgObj x) :: pts x.gb (bsObj x) :: modX m mb M k (all toldH (toldP (M.take k) ds) :: row (.slice (some ⟨g, o, none⟩) n nc) 3 1 n (ints (pgNums M)) :: R)) →
          Hid ((ds ++ [Value.slice p.1 4096 p.2]).length = k + 1) ∧ Holds e w' (row v' 100 3 (k + 1) ((toldP (M.take (k + 1)) (ds ++ [Value.slice p.1 4096 p.2])).flatMap PgV.cells) :: all toldH (toldP (M.take (k + 1)) (ds ++ [Value.slice p.1 4096 p.2])) :: row (.slice (some ⟨g, o, none⟩) n nc) 3 1 n (ints (pgNums M)) :: modH m M :: R)) := Lib.hid fun w' v' p h' => by
        have hl : ds.length = (M.take k).length := by rw [hds.out, List.length_take, HN.out]; omega
        have e1 : M.take (k + 1) = M.take k ++ [x] := by rw [List.take_add_one, hx]; rfl
        refine ⟨Lib.hid (by rw [List.length_append, hds.out]; rfl), ?_⟩
        rw [e1, toldP_snoc hl, hA0, List.flatMap_append]
        have h1 : Holds e w' (pts x.pb (pgObj x) :: pts x.gb (bsObj x) :: modX m mb M k (toldH ⟨A0, x.perm, .slice p.1 4096 p.2, x.bs⟩ :: all toldH (toldP (M.take k) ds) :: row v' 100 3 (k + 1) ((toldP (M.take k) ds).flatMap PgV.cells ++ [.int .u64 A0, .int .i64 x.perm, .slice p.1 4096 p.2]) :: row (.slice (some ⟨g, o, none⟩) n nc) 3 1 n (ints (pgNums M)) :: R)) := h'.re 9 [2, 3, 4, 5, 6, 1, 7, 0, 8]
        have h2 := (mod_close hO (mod_back hx h1)).re 5 [1, 2, 3, 4, 0]
        exact h2.allSnoc.swap
      have f1 : k + 1 ≤ maxLen := by unfold maxLen; omega
      have f2 : (k + 1) * 40 ≤ 140737488355328 := by omega
      have kI : (k : Int) < (n : Int) := by omega
      have H2 : Holds e wr.drew (pts x.pb (pgObj x) :: pts x.gb (bsObj x) :: row v 100 3 k ((toldP (M.take k) ds).flatMap PgV.cells) :: modX m mb M k (all toldH (toldP (M.take k) ds) :: row (.slice (some ⟨g, o, none⟩) n nc) 3 1 n (ints (pgNums M)) :: R)) := (HY.re 6 [0, 1, 5, 2, 3, 4]).drew
      have hxn : (x.pg : Int) < 68719476736 := by omega
      clear HY HY0 HX rr hx hxm hbl hO hA0
      generalize modX m mb M k (all toldH (toldP (M.take k) ds) :: row (.slice (some ⟨g, o, none⟩) n nc) 3 1 n (ints (pgNums M)) :: R) = RR at *
      generalize (toldP (M.take k) ds).flatMap PgV.cells = cs at *
      go_wp2_with fail
      go_region_held3 (fun w' => w'.cell? ⟨x.pb, 0, none⟩ = some (.int .i64 x.perm) ∧ w'.cell? ⟨x.pb, 1, none⟩ = some (.slice (some ⟨x.gb, 0, none⟩) 4096 4096))
        (first
          | exact HK.out _ _ (by assumption)
          | exact HK.out _ _ (Holds.drop (by assumption))
          | exact HK.out _ _ (Holds.drop (Holds.drop (Holds.alloc (by assumption) _)))
          | exact HK.out _ _ (Holds.drop (Holds.drop (by assumption))))
        (first
          | (go_at_call 40; refine (CA.out _ _ (by assumption)).mono ?_; rintro e w4 ⟨rfl, HN4⟩)
          | (go_at_call 41; refine (CC.out _ _ (by assumption)).mono ?_; rintro e w5 ⟨⟨ca, cc⟩, rfl, HN5⟩)
          | (refine step_append_sl rfl (.tmp 20) (.tmp 33) _ rfl 100 3 40 elem_page v k cs (by go_simp) _ 1 [.int .u64 A0, .int .i64 x.perm, .slice ca 4096 cc] (by go_simp; rfl) (by simp [Value.oneCell']) f1 f2 (by first | exact Holds.drop (Holds.alloc (Holds.re 4 [3, 0, 1, 2] HN4) _) | exact Holds.drop (Holds.alloc (Holds.re 4 [3, 0, 1, 2] HN5) _)) (by exact reads_lits _ [.int .u64 A0, .int .i64 x.perm, .slice ca 4096 cc] _ 1 3 rfl) ?_; intro v6 w6 H6))
      all_goals
        obtain ⟨hd2, H7⟩ := HEND.out _ _ (ca, cc) H6
        have H8 := Lib.hid H7
        clear H6 H7 HEND CA CC HK H2
        go_wp2_with fail
        go_roundw
        case rel => exact ⟨k + 1, _, v6, rfl, by omega, by go_num, hd2, H8.out⟩
        case measure => simp [Go.RowKit.intOf]; omega
    · obtain rfl : n = k := by omega
      have kI : ¬ (n : Int) < (n : Int) := by omega
      have HF : Hid (Holds e wr (pur (ds.length = n) :: row v 100 3 n ((toldP M ds).flatMap PgV.cells) :: all toldH (toldP M ds) :: modH m M :: R)) := Lib.hid (by
        have e1 : M.take n = M := by rw [← HN.out, List.take_length]
        rw [e1] at HX
        exact Holds.mkPur hds.out HX.d2)
      clear HX
      go_wp2_with fail
      go_ret
      exact ⟨(v, ds), rfl, HF.out⟩
end
end Go.Proofs.YtjbphdjheklhbaaGreat

/-
  Layer 48: the ops that lay code may be told.
-/
namespace Go.Proofs.YtjbphdjheklhbaaGreat
open Go.RowKit

section
variable {e : Env} {w : World} {R : List HP}
theorem stoO_read {B : List UInt8} {g o c : Nat} (bs j : Nat) (hj : 64 * j < B.length) {w : World} (h : RdB w (.slice (some ⟨g, o, none⟩) B.length c) B) : RdB w (stoO bs g o c B j).d (stoO bs g o c B j).ds := by
  have h1 := reads_drop (k := 64 * j) h (by omega)
  rw [Nat.mul_one, u8v_drop] at h1
  have h2 := reads_take (k := min B.length (64 * j + 64) - 64 * j) h1 (by omega)
  rw [Nat.mul_one, u8v_take] at h2
  have e1 : (B.drop (64 * j)).take (min B.length (64 * j + 64) - 64 * j) = (B.drop (64 * j)).take 64 := by
    rcases Nat.le_total B.length (64 * j + 64) with h | h
    · rw [Nat.min_eq_left h, List.take_of_length_le (by simp), List.take_of_length_le (by simp; omega)]
    · rw [Nat.min_eq_right h]; congr 1; omega
  have e2 : ((B.drop (64 * j)).take 64).length = min B.length (64 * j + 64) - 64 * j := by simp; omega
  unfold stoO RdB
  dsimp only
  rw [e1] at h2
  rw [e2]
  exact h2
theorem laid_ok {B : List UInt8} {P : List Int} {bs g o c : Nat} {a1 : Option Addr} (hP : P.length ≤ 6) (hA1 : B.length ≠ 0 → a1 = some ⟨g, o, none⟩) (hr : ∀ w', Holds e w' R → RdB w' (.slice a1 B.length c) B) :
    ∀ x ∈ laid bs g o c B P, x.wr ∧ OpOk e R x := by
  intro x hx
  unfold laid at hx
  rcases List.mem_append.1 hx with hx | hx
  · rcases List.mem_append.1 hx with hx | hx
    · obtain ⟨i, hi, rfl⟩ := List.mem_map.1 hx
      rw [List.mem_range] at hi
      exact ⟨.inl rfl, by unfold mapO; dsimp only; omega, fun w' _ => reads_none _ _, by simp [mapO]⟩
    · obtain ⟨j, hj, rfl⟩ := List.mem_map.1 hx
      rw [List.mem_range] at hj
      unfold chN at hj
      refine ⟨.inr (.inr rfl), add64_lt _ _, fun w' h => ?_, by simp [stoO]; omega⟩
      have := hr w' h
      rw [hA1 (by omega)] at this
      exact stoO_read bs j (by omega) this
  · obtain ⟨i, hi, rfl⟩ := List.mem_map.1 hx
    rw [List.mem_range] at hi
    exact ⟨.inr (.inl rfl), by unfold proO; dsimp only; omega, fun w' _ => reads_none _ _, by simp [proO]⟩
theorem laid_len (bs g o c : Nat) (B : List UInt8) (P : List Int) (hB : B.length ≤ 900) (hP : P.length ≤ 6) : (laid bs g o c B P).length ≤ 1000 := by
  unfold laid chN
  simp
  omega
/-- The pages of code that is laid. -/
noncomputable def layP (bs g o c : Nat) (B : List UInt8) (P : List Int) (ps : List (Nat × Nat)) : List Pg := runP [] (laid bs g o c B P) ps
theorem layP_alike (bs g o c : Nat) (B : List UInt8) (P : List Int) {ps qs : List (Nat × Nat)} (hp : ps.length = (laid bs g o c B P).length) (hq : qs.length = (laid bs g o c B P).length) : stripM (layP bs g o c B P ps) = stripM (layP bs g o c B P qs) := by
  unfold layP
  rw [runP_strip _ _ _ hp, runP_strip _ _ _ hq]
theorem alike_key {M M' : List Pg} {ds ds' : List Value} (h : stripM M = stripM M') (h1 : ds.length = M.length) (h2 : ds'.length = M'.length) : (toldP M ds).map PgV.key = (toldP M' ds').map PgV.key := by
  rw [toldP_key h1, toldP_key h2]
  have e1 : ∀ M : List Pg, M.map (fun x => (upA (4096 * x.pg), x.perm, x.bs)) = (stripM M).map (fun x => (upA (4096 * x.pg), x.perm, x.bs)) := fun M => by
    unfold stripM
    rw [List.map_map]
    rfl
  rw [e1 M, e1 M', h]
end
end Go.Proofs.YtjbphdjheklhbaaGreat
