/-
  The law of layer 25: deeds; the reference's Add, Remove, Oldest.
-/
import Derived.Test.YtfjdgjdkpmljkaaLru3
namespace Go.Proofs.Ytfjdgjdkpmljkaa
open Go.RowKit Go.Shelf

abbrev Deed := Bool × List Int
/-- Through the slice a of n deeds the list D is read. -/
def Deeds (w : World) (a : Option Addr) (n : Nat) (D : List Deed) : Prop :=
  D.length = n ∧ ∀ i, i < n → ∃ b o v, a = some ⟨b, o, none⟩ ∧ b < w.heap.size ∧ w.cell? ⟨b, o + i * 2, none⟩ = some (.bool (D.getD i (false, [])).1) ∧ w.cell? ⟨b, o + i * 2 + 1, none⟩ = some v ∧ Reads w v 1 (D.getD i (false, [])).2.length (ints (D.getD i (false, [])).2)

def greatB (D : List Deed) : Bool := (D.take 100).any (fun d => decide (60 < d.2.length)) || decide (40 < D.length)
theorem greatB_false {D : List Deed} (h : greatB D = false) : D.length ≤ 40 ∧ ∀ i, i < D.length → (D.getD i (false, [])).2.length ≤ 60 := by
  unfold greatB at h
  rw [Bool.or_eq_false_iff] at h
  have h2 : D.length ≤ 40 := by have := h.2; simp at this; omega
  refine ⟨h2, fun i hi => ?_⟩
  have h1 := h.1
  rw [List.take_of_length_le (by omega), List.any_eq_false] at h1
  have := h1 (D[i]) (List.getElem_mem hi)
  simp only [List.getD, List.getElem?_eq_getElem hi, Option.getD_some]
  simp at this
  omega

def NotGreat (D : List Deed) (k : Nat) : Prop := ∀ j, j < k → (D.getD j (false, [])).2.length ≤ 60
theorem greatB_of {D : List Deed} {k : Nat} (h : NotGreat D k) (hk : D.length ≤ k ∨ 100 ≤ k) : greatB D = decide (40 < D.length) := by
  unfold greatB
  rw [show (D.take 100).any (fun d => decide (60 < d.2.length)) = false from ?_, Bool.false_or]
  rw [List.any_eq_false]
  intro d hd
  obtain ⟨j, hj, rfl⟩ := List.getElem_of_mem hd
  rw [List.length_take] at hj
  have := h j (by omega)
  simp only [List.getD, List.getElem?_eq_getElem (show j < D.length by omega), Option.getD_some] at this
  rw [List.getElem_take]
  simp; omega
theorem greatB_yes {D : List Deed} {k : Nat} (hk : k < D.length) (h1 : k < 100) (h2 : 60 < (D.getD k (false, [])).2.length) : greatB D = true := by
  unfold greatB
  rw [show (D.take 100).any (fun d => decide (60 < d.2.length)) = true from ?_, Bool.true_or]
  rw [List.any_eq_true]
  refine ⟨D[k], ?_, ?_⟩
  · rw [show D[k] = (D.take 100)[k]'(by rw [List.length_take]; omega) by simp]
    exact List.getElem_mem _
  · simp only [List.getD, List.getElem?_eq_getElem hk, Option.getD_some] at h2
    simpa using h2

theorem nats_erase' (l : List Nat) (y : Nat) : (nats l).erase (y : Int) = nats (l.erase y) := by
  induction l with
  | nil => rfl
  | cons a m ih =>
    simp only [nats, List.map_cons] at ih ⊢
    by_cases h : a = y
    · subst h; simp
    · have h1 : (a == y) = false := by simp [h]
      have h2 : ((a : Int) == (y : Int)) = false := by simp; omega
      rw [List.erase_cons_tail (by simp [h2]), List.erase_cons_tail (by simp [h1]), List.map_cons, ih]
theorem nats_mem' {l : List Nat} {x : Int} : x ∈ nats l ↔ 0 ≤ x ∧ x.toNat ∈ l := by
  simp only [nats, List.mem_map]
  constructor
  · rintro ⟨a, h, rfl⟩; exact ⟨by omega, by simpa using h⟩
  · rintro ⟨h1, h2⟩; exact ⟨x.toNat, h2, by omega⟩

section
variable {e : Env} {w : World} {R : List HP} {L : List Nat} {ob : Nat}

set_option maxHeartbeats 800000 in
theorem great_any (ad : Option Addr) (n c : Nat) (D : List Deed) (hn : n ≤ 4611686018427387904) (hD : Deeds w ad n D) : Calls Try.prog 59 #[.slice ad n c] w (Quiet w (.bool (greatB D))) := by
  obtain ⟨hl, hd⟩ := hD
  go_enter Try.func59, Try.ntmps59
  go_wp2
  go_loop [3] (fun i => ∃ k : Nat, k ≤ n ∧ k ≤ 100 ∧ i = .int .i64 (k : Nat) ∧ Hid (NotGreat D k)) (fun i => n - (intOf i).toNat)
  case atStart => exact ⟨0, by omega, by omega, rfl, Lib.hid fun j hj => absurd hj (by omega)⟩
  case round =>
    obtain ⟨k, hk, hk2, rfl, HN⟩ := hrel
    by_cases hlt : k < n
    · by_cases h100 : k < 100
      · obtain ⟨b, o, v, rfl, hb, h1, h2, h3⟩ := hd k hlt
        obtain ⟨av, cv, rfl⟩ := h3.shape
        have hlen : NotGreat D k → (D.getD k (false, [])).2.length ≤ 60 → NotGreat D (k + 1) := fun hn hq j hj => by
          by_cases hj' : j = k
          · subst hj'; exact hq
          · exact hn j (by omega)
        have hyes : 60 < (D.getD k (false, [])).2.length → greatB D = true := fun hq => greatB_yes (by omega) h100 hq
        generalize (D.getD k (false, [])).2.length = q at *
        clear hd h1 h3
        by_cases hq : 60 < q
        · have hgr := Lib.hid (hyes hq)
          clear hlen hyes
          go_wp2
          go_ret
          exact ⟨by rw [hgr.out]; rfl, 0, rfl⟩
        · have hgr := Lib.hid (hlen HN.out (by omega))
          clear hlen hyes
          go_wp2
          go_round
          case rel => exact ⟨k + 1, by omega, by omega, by go_num, hgr⟩
          case measure => simp [intOf]; omega
      · have hgr := Lib.hid (greatB_of HN.out (.inr (by omega)))
        clear hd
        go_wp2
        go_ret
        exact ⟨by rw [hgr.out, hl]; simp; omega, 0, rfl⟩
    · have hgr := Lib.hid (greatB_of HN.out (.inl (by omega)))
      clear hd
      go_wp2
      go_ret
      exact ⟨by rw [hgr.out, hl]; simp; omega, 0, rfl⟩

theorem addL_len : ∀ (zs : List Int) (L : List Nat), (addL L zs).1.length ≤ L.length + zs.length
  | [], L => by simp [addL]
  | z :: zs, L => by
    simp only [addL]
    split
    · have := addL_len zs (L.erase z.toNat ++ [z.toNat])
      have h2 : (L.erase z.toNat).length ≤ L.length := List.length_erase_le
      simp at this ⊢; omega
    · have := addL_len zs L
      simp; omega
theorem remL_len : ∀ (zs : List Int) (L : List Nat), (remL L zs).1.length ≤ L.length
  | [], L => by simp [remL]
  | z :: zs, L => by
    simp only [remL]
    split
    · have := remL_len zs (L.erase z.toNat)
      have h2 : (L.erase z.toNat).length ≤ L.length := List.length_erase_le
      simp at this ⊢; omega
    · exact remL_len zs L

set_option maxHeartbeats 2000000 in
theorem refAdd {v : Value} (H : Holds e w (row v 3 1 L.length (ints (nats L)) :: R)) (hL : L.length ≤ 10000) (zs : List Int) (vn : Value) (n : Nat) (hn : n ≤ 10000) (hrR : ∀ w', Holds e w' R → Reads w' vn 1 n (ints zs)) :
    Calls Try.prog 64 #[v, vn] w (RetEx e (fun v' => .tuple #[v', .int .i64 (addL L zs).2]) (fun v' => row v' 3 1 (addL L zs).1.length (ints (nats (addL L zs).1)) :: R)) := by
  obtain ⟨hxl, a, c, rfl, hsome⟩ := reads_ints_at (hrR w H.drop)
  go_enter Try.func64, Try.ntmps64
  go_wp2
  go_loopw [0, 6, 7] (fun p q i wr => ∃ (k : Nat) (v : Value), k ≤ n ∧ i = .int .i64 (k : Nat) ∧ q = .int .i64 ((addL L (zs.take k)).2 : Nat) ∧ p = v ∧ Holds e wr (row v 3 1 (addL L (zs.take k)).1.length (ints (nats (addL L (zs.take k)).1)) :: R)) (fun _ _ i _ => n - (intOf i).toNat)
  case atStart => exact ⟨0, v, by omega, rfl, rfl, rfl, H⟩
  case round =>
    obtain ⟨k, vx, hk, rfl, rfl, rfl, HH⟩ := hrel
    obtain ⟨ax, cx, rfl⟩ := row_shape HH
    have hcnt := addL_count L (zs.take k)
    have hln := addL_len (zs.take k) L
    have htl : (zs.take k).length = k := by rw [List.length_take]; omega
    rw [htl] at hcnt hln
    by_cases hlt : k < n
    · obtain ⟨g, o, rfl⟩ := hsome (by omega)
      have hz : zs[k]? = some (zs.getD k 0) := by simp [List.getD, List.getElem?_eq_getElem (show k < zs.length by omega)]
      have hcx : wr.cell? ⟨g, o + k, none⟩ = some (.int .i64 (zs.getD k 0)) := by
        obtain ⟨b', o', h1, h2⟩ := (hrR wr HH.drop).at (by omega)
        cases h1
        exact h2 k _ (ints_get hz)
      have hs := addL_snoc (zs.getD k 0) (zs.take k) L
      rw [show zs.take k ++ [zs.getD k 0] = zs.take (k + 1) by rw [List.take_add_one, hz]; rfl] at hs
      generalize zs.getD k 0 = z at *
      have HS := Lib.hid hs
      clear hs hz hxl hsome htl
      generalize addL L (zs.take k) = L1 at *
      rcases (by omega : z < 1 ∨ (1 ≤ z ∧ z ≤ 512) ∨ (1 ≤ z ∧ 512 < z)) with h2 | ⟨h2, h3⟩ | ⟨h2, h3⟩
      · rw [if_neg (by omega)] at HS
        go_wp2
        go_roundw
        case rel => exact ⟨k + 1, _, by omega, by go_num, by rw [HS.out], rfl, by rw [HS.out]; exact HH⟩
        case measure => simp [intOf]; omega
      · have cp := pushRow (x := nats L1.1) (by rw [nats_length']; exact HH) (by rw [nats_length']; omega) 513 z
        rw [decide_eq_true (by omega), show pushL (nats L1.1) 513 z = nats (L1.1.erase z.toNat ++ [z.toNat]) by
          obtain ⟨y, rfl⟩ : ∃ y : Nat, z = (y : Int) := ⟨z.toNat, by omega⟩
          unfold pushL; rw [if_pos (by omega), nats_erase']; simp [nats], nats_length'] at cp
        rw [if_pos (by omega)] at HS
        generalize L1.1.erase z.toNat ++ [z.toNat] = L3 at *
        go_wp2_with fail
        refine cp.mono ?_
        rintro e w2 ⟨v2, rfl, H2⟩
        clear cp
        go_wp2
        go_roundw
        case rel => exact ⟨k + 1, _, by omega, by go_num, by rw [HS.out]; rfl, rfl, by rw [HS.out]; exact H2⟩
        case measure => simp [intOf]; omega
      · rw [if_neg (by omega)] at HS
        go_wp2
        go_roundw
        case rel => exact ⟨k + 1, _, by omega, by go_num, by rw [HS.out], rfl, by rw [HS.out]; exact HH⟩
        case measure => simp [intOf]; omega
    · obtain rfl : k = n := by omega
      rw [show zs.take k = zs from List.take_of_length_le (by omega)] at *
      go_wp2
      go_ret2
      exact ⟨_, rfl, HH⟩

set_option maxHeartbeats 2000000 in
theorem refRemove {v : Value} (H : Holds e w (row v 3 1 L.length (ints (nats L)) :: R)) (hL : L.length ≤ 10000) (zs : List Int) (vn : Value) (n : Nat) (hn : n ≤ 10000) (hrR : ∀ w', Holds e w' R → Reads w' vn 1 n (ints zs)) :
    Calls Try.prog 63 #[v, vn] w (RetEx e (fun v' => .tuple #[v', .int .i64 (remL L zs).2]) (fun v' => row v' 3 1 (remL L zs).1.length (ints (nats (remL L zs).1)) :: R)) := by
  obtain ⟨hxl, a, c, rfl, hsome⟩ := reads_ints_at (hrR w H.drop)
  go_enter Try.func63, Try.ntmps63
  go_wp2
  go_loopw [0, 6, 7] (fun p q i wr => ∃ (k : Nat) (v : Value), k ≤ n ∧ i = .int .i64 (k : Nat) ∧ q = .int .i64 ((remL L (zs.take k)).2 : Nat) ∧ p = v ∧ Holds e wr (row v 3 1 (remL L (zs.take k)).1.length (ints (nats (remL L (zs.take k)).1)) :: R)) (fun _ _ i _ => n - (intOf i).toNat)
  case atStart => exact ⟨0, v, by omega, rfl, rfl, rfl, H⟩
  case round =>
    obtain ⟨k, vx, hk, rfl, rfl, rfl, HH⟩ := hrel
    obtain ⟨ax, cx, rfl⟩ := row_shape HH
    have hcnt := remL_count L (zs.take k)
    have hln := remL_len (zs.take k) L
    have htl : (zs.take k).length = k := by rw [List.length_take]; omega
    rw [htl] at hcnt
    by_cases hlt : k < n
    · obtain ⟨g, o, rfl⟩ := hsome (by omega)
      have hz : zs[k]? = some (zs.getD k 0) := by simp [List.getD, List.getElem?_eq_getElem (show k < zs.length by omega)]
      have hcx : wr.cell? ⟨g, o + k, none⟩ = some (.int .i64 (zs.getD k 0)) := by
        obtain ⟨b', o', h1, h2⟩ := (hrR wr HH.drop).at (by omega)
        cases h1
        exact h2 k _ (ints_get hz)
      have hs := remL_snoc (zs.getD k 0) (zs.take k) L
      rw [show zs.take k ++ [zs.getD k 0] = zs.take (k + 1) by rw [List.take_add_one, hz]; rfl] at hs
      generalize zs.getD k 0 = z at *
      have HS := Lib.hid hs
      clear hs hz hxl hsome htl
      generalize remL L (zs.take k) = L1 at *
      have cp := dropRow (x := nats L1.1) (by rw [nats_length']; exact HH) (by rw [nats_length']; omega) z
      rw [decide_eq_decide.2 (nats_mem' (l := L1.1) (x := z))] at cp
      by_cases h1 : 0 ≤ z ∧ z.toNat ∈ L1.1
      · rw [if_pos h1] at HS
        rw [decide_eq_true h1, show dropL (nats L1.1) z = nats (L1.1.erase z.toNat) by
          obtain ⟨y, rfl⟩ : ∃ y : Nat, z = (y : Int) := ⟨z.toNat, by omega⟩
          unfold dropL; rw [nats_erase']; simp, nats_length'] at cp
        generalize L1.1.erase z.toNat = L3 at *
        clear h1
        go_wp2_with fail
        refine cp.mono ?_
        rintro e w2 ⟨v2, rfl, H2⟩
        clear cp
        go_wp2
        go_roundw
        case rel => exact ⟨k + 1, _, by omega, by go_num, by rw [HS.out]; rfl, rfl, by rw [HS.out]; exact H2⟩
        case measure => simp [intOf]; omega
      · rw [if_neg h1] at HS
        rw [decide_eq_false h1, show dropL (nats L1.1) z = nats L1.1 from List.erase_of_not_mem (fun h => h1 (nats_mem'.1 h)), nats_length'] at cp
        clear h1
        go_wp2_with fail
        refine cp.mono ?_
        rintro e w2 ⟨v2, rfl, H2⟩
        clear cp
        go_wp2
        go_roundw
        case rel => exact ⟨k + 1, _, by omega, by go_num, by rw [HS.out], rfl, by rw [HS.out]; exact H2⟩
        case measure => simp [intOf]; omega
    · obtain rfl : k = n := by omega
      rw [show zs.take k = zs from List.take_of_length_le (by omega)] at *
      go_wp2
      go_ret2
      exact ⟨_, rfl, HH⟩

/-- The oldest ones, as many as are wanted. -/
def oldL (m : Int) (L : List Nat) : List Nat := if m < 1 then [] else takeM m L
theorem lruOldest_small (H : Holds e w (lruH ob L :: R)) (m : Int) (hm : m < 1) : Calls Try.prog 58 #[.pointer (some ⟨ob, 0, none⟩), .int .i64 m] w (Ret e (.slice none 0 0) (lruH ob L :: R)) := by
  refine (callsIn_wide (n := 3)).1 ?_
  refine callsIn_of_wp_marks Try.func58 rfl trivial ?_ rfl
  simp only [Try.ntmps58, List.size_toArray, List.length_cons, List.length_nil, Nat.reduceAdd, Nat.reduceSub, Array.replicate_succ, Array.replicate_zero, List.push_toArray, List.append_toArray, List.nil_append, List.cons_append]
  gi_wp2
  exact ⟨_, results_tmp rfl _ _ _, rfl, (H.alloc _).drop⟩
theorem lruOldest_any (H : Holds e w (lruH ob L :: R)) (m : Int) : Calls Try.prog 58 #[.pointer (some ⟨ob, 0, none⟩), .int .i64 m] w (RetEx e (fun v : Value => v) (fun v => row v 3 1 (oldL m L).length (ints (nats (oldL m L))) :: lruH ob L :: R)) := by
  unfold oldL
  by_cases hm : m < 1
  · simp only [if_pos hm]
    exact (lruOldest_small H m hm).mono fun en w' ⟨h1, h2⟩ => ⟨_, h1, row.nil _ 1 h2⟩
  · simp only [if_neg hm]
    exact lruOldest_ok H m (by omega)

theorem refOldest {v : Value} (H : Holds e w (row v 3 1 L.length (ints (nats L)) :: R)) (m : Int) : Calls Try.prog 65 #[v, .int .i64 m] w (fun en w' => ∃ v', en = .returned v' ∧ Reads w' v' 1 (oldL m L).length (ints (nats (oldL m L))) ∧ w' = w) := by
  have hr := row.reads H
  obtain ⟨hl, hx⟩ := row.open H
  unfold oldL
  by_cases hm : m < 1
  · rw [if_pos hm]
    clear hx hr
    go_enter Try.func65, Try.ntmps65
    go_wp2
    go_ret
    exact ⟨_, rfl, reads_none _ 1, rfl⟩
  · rw [if_neg hm]
    rcases hx with ⟨rfl, h0⟩ | ⟨g, cap, cur, rfl, hcap, _⟩
    · obtain rfl : L = [] := List.length_eq_zero_iff.1 h0
      rw [show takeM m ([] : List Nat) = [] by unfold takeM; split <;> simp]
      clear hr hl
      go_enter Try.func65, Try.ntmps65
      go_wp2
      go_ret
      exact ⟨_, rfl, reads_none _ 1, rfl⟩
    · by_cases hb : (L.length : Int) < m
      · rw [takeM_all (.inr (by omega))]
        clear hl
        go_enter Try.func65, Try.ntmps65
        go_wp2
        go_ret
        exact ⟨_, rfl, hr, rfl⟩
      · obtain ⟨k, rfl⟩ : ∃ k : Nat, m = (k : Int) := ⟨m.toNat, by omega⟩
        have h4 := reads_take hr (show k ≤ L.length by omega)
        have h5 : takeM (k : Int) L = L.take k := by
          have := takeM_cut (m := (k : Int)) (A := L.take k) (B := L.drop k) (by rw [List.length_take]; omega) (by omega)
          rwa [List.take_append_drop] at this
        rw [h5, List.length_take, show min k L.length = k by omega]
        have h6 : ints (nats (L.take k)) = (ints (nats L)).take (k * 1) := by simp [ints, nats, List.map_take]
        rw [h6]
        clear hl h5 h6 hr
        go_enter Try.func65, Try.ntmps65
        go_wp2
        go_ret
        rw [Nat.mul_one] at h4
        exact ⟨.slice (some ⟨g, 0, none⟩) k cap, rfl, by first | exact h4 | (rw [Nat.mul_one]; exact h4), rfl⟩
end
end Go.Proofs.Ytfjdgjdkpmljkaa
