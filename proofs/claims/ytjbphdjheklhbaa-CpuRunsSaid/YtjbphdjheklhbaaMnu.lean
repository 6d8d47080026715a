/-
  Package model: numbers.
-/
import Derived.Test.YtjbphdjheklhbaaMod10
import Derived.Test.YtjbphdjheklhbaaMit
import Derived.Test.YtjbphdjheklhbaaSrt
namespace Go.Proofs.Ytjbphdjheklhbaa
open Go.RowKit

def pgNums (M : List Pg) : List Int := M.map fun x => (x.pg : Int)
theorem len_le {S : List Int} {N : Nat} (hn : S.Nodup) (h : ∀ k ∈ S, 0 ≤ k ∧ k < N) : S.length ≤ N := by
  have := nodup_lenM (l := S.map Int.toNat) (n := N) (List.pairwise_map.2 (hn.imp_of_mem fun {a b} ha hb hab => by
    have h1 := h a ha; have h2 := h b hb; omega)) (fun x hx => by
    obtain ⟨a, ha, rfl⟩ := List.mem_map.1 hx
    have h1 := h a ha; omega)
  simpa using this
theorem look_some {M : List Pg} {k : Int} : (look M k).isSome = true ↔ k ∈ pgNums M := by
  unfold look pgNums
  constructor
  · intro h
    split at h
    · next h0 =>
      rw [Option.isSome_map] at h
      obtain ⟨x, hx⟩ := Option.isSome_iff_exists.1 h
      obtain ⟨i, hi, hq⟩ := fnd_at hx
      exact List.mem_map.2 ⟨x, List.mem_of_getElem? hi, by omega⟩
    · cases h
  · intro h
    obtain ⟨x, hx, rfl⟩ := List.mem_map.1 h
    rw [if_pos (by omega), Option.isSome_map, Int.toNat_natCast]
    unfold fnd
    rw [List.find?_isSome]
    exact ⟨x, hx, by simp⟩
theorem ModOk.nums {M : List Pg} (h : ModOk M) : (pgNums M).Nodup ∧ (∀ k ∈ pgNums M, 0 ≤ k ∧ k < (68719476736 : Nat)) ∧ (pgNums M).Pairwise (fun a b => decide (a ≤ b) = true) := by
  refine ⟨List.pairwise_map.2 (h.rise.imp fun {a b} hab => by omega), fun k hk => ?_, List.pairwise_map.2 (h.rise.imp fun {a b} hab => by simp; omega)⟩
  obtain ⟨x, hx, rfl⟩ := List.mem_map.1 hk
  have := h.lt x hx
  omega
theorem ModOk.sorted {M : List Pg} (h : ModOk M) {S : List Int} (hn : S.Nodup) (hS : ∀ k ∈ S, (look M k).isSome = true) (hA : ∀ k, (look M k).isSome = true → k ∈ S) : (S.mergeSort fun x y => decide (x ≤ y)) = pgNums M ∧ S.length = M.length := by
  obtain ⟨h1, _, h3⟩ := h.nums
  have hp : S.Perm (pgNums M) := (List.perm_ext_iff_of_nodup hn h1).2 fun k => ⟨fun hk => look_some.1 (hS k hk), fun hk => hA k (look_some.2 hk)⟩
  refine ⟨?_, by have := hp.length_eq; simpa [pgNums] using this⟩
  have e1 := mergeSort_of_perm_i hp
  have e2 := List.mergeSort_of_pairwise h3
  exact e1.trans e2
section
variable {e : Env} {w : World} {R : List HP} {m : Nat} {M : List Pg}
set_option maxRecDepth 100000 in
set_option maxHeartbeats 1000000 in
theorem modNumbers (H : Holds e w (modH m M :: R)) : Calls Try.prog 58 #[.pointer (some ⟨m, 0, none⟩)] w
    (RetEx e (fun v : Value => v) (fun v => row v 3 1 M.length (ints (pgNums M)) :: modH m M :: R)) := by
  obtain ⟨mb, hO, HY⟩ := mod_open H
  have c0 : w.cell? ⟨m, 0, none⟩ = some (.map (some mb)) := HY.cells 0
  obtain ⟨w1, cnt0, hrun, H1⟩ := mapIt_start (P := Try.prog) (t := 126) (kt := 3) (et := 139) HY.swap (by kernel_rfl)
  obtain ⟨r, hr⟩ : ∃ r, w.heap.size = r := ⟨_, rfl⟩
  rw [hr] at hrun H1
  have HO := Lib.hid hO
  clear H HY hO
  go_enter Try.func58, Try.ntmps58
  go_wp2_with fail
  go_loopw [3, 4] (fun l _ wr => ∃ (S : List Int) (cnt : Nat) (v : Value), v = l ∧ Hid (S.Nodup ∧ ∀ k ∈ S, (look M k).isSome = true) ∧ Holds e wr (row v 3 1 S.length (ints S) :: mapIt mb r 68719476736 (look M) S cnt :: pts m (modObj mb) :: all pageH M :: R)) (fun _ _ wr => wr.rangeLeft mb r)
  case atStart => exact ⟨[], cnt0, _, rfl, Lib.hid ⟨List.nodup_nil, by simp⟩, row.nil _ 1 H1⟩
  case round =>
    clear H1 hrun c0
    obtain ⟨S, cnt, v, rfl, hS, HX⟩ := hrel
    have hleft := mapIt_left HX.swap
    rcases mapIt_next (P := Try.prog) HX.swap 0 with ⟨hall, hn⟩ | ⟨k, pv, w2, cnt2, hD, hkS, k0, k1, hlt, hn, H2, hen⟩
    · obtain ⟨hs1, hs2⟩ := HO.out.sorted hS.out.1 hS.out.2 hall
      have hlen := len_le hS.out.1 (N := 68719476736) fun k hk => (HO.out.nums).2.1 k (look_some.1 (hS.out.2 k hk))
      have cS := Lib.hid (slSort (by omega) HX)
      have HF : Hid (∀ w', Holds e w' (row v 3 1 S.length (ints (S.mergeSort fun x y => decide (x ≤ y))) :: mapIt mb r 68719476736 (look M) S cnt :: pts m (modObj mb) :: all pageH M :: R) → Holds e w' (row v 3 1 M.length (ints (pgNums M)) :: modH m M :: R)) := Lib.hid fun w' h => by
        rw [hs1, hs2] at h
        exact (mod_close HO.out ((mapIt_end h.swap).re 4 [2, 0, 3, 1])).swap
      clear HX hall hs1 hs2 hlen hleft
      go_wp2_with fail
      refine cS.out.mono ?_
      rintro en w3 ⟨rfl, H3⟩
      have H4 := Lib.hid (HF.out _ H3)
      clear cS H3
      go_wp2_with fail
      go_ret
      exact ⟨v, rfl, H4.out⟩
    · have hS2 : Hid ((S ++ [k]).Nodup ∧ ∀ j ∈ S ++ [k], (look M j).isSome = true) := Lib.hid (by
        refine ⟨List.nodup_append.2 ⟨hS.out.1, by simp, fun a ha b hb => ?_⟩, fun j hj => ?_⟩
        · rw [List.mem_singleton] at hb; subst hb; rintro rfl; exact hkS ha
        · rcases List.mem_append.1 hj with h | h
          · exact hS.out.2 j h
          · rw [List.mem_singleton] at h; subst h; rw [hD]; rfl)
      have hlen := len_le hS.out.1 (N := 68719476736) fun k hk => (HO.out.nums).2.1 k (look_some.1 (hS.out.2 k hk))
      have HA : Holds e (w2.alloc (.cells #[.int .i64 k] 3)) (row v 3 1 S.length (ints S) :: mapIt mb r 68719476736 (look M) (S ++ [k]) cnt2 :: pts m (modObj mb) :: all pageH M :: R) := (H2.swap.alloc _).drop
      have HRL := reads_lit1 w2 (.int .i64 k) 3
      have HLE := Lib.hid (show cnt2 < wr.rangeLeft mb r by rw [hleft]; exact hlt)
      clear HX H2 hD hkS hS hleft hlt
      generalize hn1 : S.length = n1 at *
      go_wp2_with (at_builtin; refine wpList_append_sl rfl (.tmp 16) _ _ rfl 3 1 8 elem_int v n1 (ints S) rfl HA (.slice (some ⟨w2.heap.size, 0, none⟩) 1 1) 1 [.int .i64 k] rfl HRL (by simp [Value.oneCell']) ?_ ?_ ?_)
      · unfold maxLen; omega
      · omega
      intro v5 w5 H5
      have H6 : Hid (Holds e w5 (row v5 3 1 (S ++ [k]).length (ints (S ++ [k])) :: mapIt mb r 68719476736 (look M) (S ++ [k]) cnt2 :: pts m (modObj mb) :: all pageH M :: R)) := Lib.hid (by
        rw [ints_append, List.length_append, hn1]
        exact H5)
      clear HA HRL H5 hn1
      go_wp2_with fail
      go_roundw
      case rel => exact ⟨S ++ [k], cnt2, v5, rfl, hS2, H6.out⟩
      case measure => rw [mapIt_left H6.out.swap]; exact HLE.out
end
end Go.Proofs.Ytjbphdjheklhbaa
