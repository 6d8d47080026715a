/-
  ChainPlays: the walk.
-/
import Derived.Test.YtfjdgjdkpmljkaaChn10
namespace Go.Proofs.Ytfjdgjdkpmljkaa
open Go.RowKit

theorem nats_erase (l : List Nat) (y : Nat) : (nats l).erase (y : Int) = nats (l.erase y) := by
  induction l with
  | nil => rfl
  | cons a m ih =>
    simp only [nats, List.map_cons] at ih ⊢
    by_cases h : a = y
    · subst h; simp
    · have h1 : (a == y) = false := by simp [h]
      have h2 : ((a : Int) == (y : Int)) = false := by simp; omega
      rw [List.erase_cons_tail (by simp [h2]), List.erase_cons_tail (by simp [h1]), List.map_cons, ih]
theorem nats_push (N : Nat) (l : List Nat) (z : Int) : pushL (nats l) N z = nats (chPushed N l z) := by
  unfold pushL chPushed
  by_cases h : 0 ≤ z ∧ z < N
  · rw [if_pos h, if_pos h]
    obtain ⟨y, rfl⟩ : ∃ y : Nat, z = (y : Int) := ⟨z.toNat, by omega⟩
    rw [nats_erase]; simp [nats]
  · rw [if_neg h, if_neg h]
theorem nats_drop (l : List Nat) (y : Nat) : dropL (nats l) (y : Int) = nats (chDropped l y) := by
  unfold dropL chDropped
  rw [nats_erase]; simp

section
variable {e : Env} {w : World} {R : List HP}
theorem chPush_nil (H : Holds e w R) (x : Int) : Calls Try.prog 33 #[.pointer none, .int .i64 x] w (Ret e (.bool false) R) := by
  go_enter Try.func33, Try.ntmps33
  go_wp2_with fail
  refine (retQ (chMay_nil x) H).mono ?_
  rintro e w1 ⟨rfl, H1⟩
  go_wp2
  go_ret
  exact ⟨rfl, H1⟩
theorem chDrop_nil (H : Holds e w R) (x : Int) : Calls Try.prog 35 #[.pointer none, .int .i64 x] w (Ret e (.bool false) R) := by
  go_enter Try.func35, Try.ntmps35
  go_wp2_with fail
  refine (retQ (chHas_nil x) H).mono ?_
  rintro e w1 ⟨rfl, H1⟩
  go_wp2
  go_ret
  exact ⟨rfl, H1⟩
end

set_option maxRecDepth 100000 in
set_option maxHeartbeats 4000000 in
theorem chainPlays_walk (W : World) (s : Int) (v : Value) (n : Nat) (zs : List Int)
    (hz : ∀ z ∈ zs, -9223372036854775808 ≤ z ∧ z ≤ 9223372036854775807) (hr : Reads W v 1 n (ints zs)) :
    Calls Try.prog 10 #[.int .i64 s, v] W fun e w' => e = .returned (.bool true) ∧ Below W.heap.size W w' := by
  have H0 := Holds.start W
  generalize hE : (⟨W.os, W.output, W.tape⟩ : Env) = E at *
  have hbel : ∀ w' A, Holds E w' (base W :: A) → Below W.heap.size W w' := fun w' A h => by subst hE; exact h.below rfl rfl rfl
  clear hE
  obtain ⟨ad, c, rfl⟩ := hr.shape
  have hlen : zs.length = n := by have := hr.len; simpa using this
  have HC : Hid (∀ k, k < n → ∃ b o, ad = some ⟨b, o, none⟩ ∧ ∀ w' X Y, Holds E w' [X, Y, base W] → w'.cell? ⟨b, o + k, none⟩ = some (.int .i64 (zs.getD k 0))) := Lib.hid fun k hk => by
    obtain ⟨b, o, h1, h2, h3⟩ := flat_at hr (by simpa using hlen) k 0 hk (by omega)
    refine ⟨b, o, h1, fun w' X Y h => ?_⟩
    have h4 := h3 0 (by omega)
    simp only [Nat.mul_one, Nat.add_zero] at h4
    rw [← h4]; exact World.cell?_of_block (w := W) (h.drop.drop.baseE h2)
  have HB := Lib.hid fun k => getD_bd hz k
  clear hz hr hlen
  go_enter Try.func10, Try.ntmps10
  go_wp2_with fail
  refine (all_nil H0 (-1)).mono ?_
  rintro e w1 ⟨rfl, H1⟩
  go_wp2_with fail
  refine (chPush_nil H1 0).mono ?_
  rintro e w2 ⟨rfl, H2⟩
  go_wp2_with fail
  refine (chDrop_nil H2 0).mono ?_
  rintro e w3 ⟨rfl, H3⟩
  go_wp2_with fail
  refine (retQ (chHas_nil 0) H3).mono ?_
  rintro e w4 ⟨rfl, H4⟩
  go_wp2_with fail
  refine (retQ chLen_nil H4).mono ?_
  rintro e w5 ⟨rfl, H5⟩
  clear H0 H1 H2 H3 H4
  by_cases hbig : 100 < n
  · go_wp2_with fail
    refine (lives03 H5).mono ?_
    rintro e w1 ⟨rfl, H1⟩
    go_wp2
    go_ret
    exact ⟨rfl, hbel _ _ H1⟩
  · obtain ⟨N, hN⟩ : ∃ N : Nat, max 0 (min 4096 s) = N := ⟨(max 0 (min 4096 s)).toNat, by omega⟩
    have HS : Hid (∀ w, Calls Try.prog 51 #[.int .i64 s] w (Quiet w (.int .i64 N))) := Lib.hid fun w => by rw [← hN]; exact size3_any w s
    have c1 := cNew H5 s N hN
    clear hN
    go_wp2_with fail
    refine c1.mono ?_
    rintro e w6 ⟨b, rfl, H6⟩
    have H7 : Holds E w6 [chn b N [], row (.slice none 0 0) 3 1 ([] : List Nat).length (ints (nats [])), base W] := (row.nil _ 1 H6).swap
    clear H5 H6 c1
    go_wp2
    go_loopw [9, 10] (fun q i wr => ∃ (k : Nat) (L : List Nat) (v : Value), k ≤ n ∧ L.length ≤ k ∧ i = .int .i64 (k : Nat) ∧ q = v ∧ Holds E wr [chn b N L, row v 3 1 L.length (ints (nats L)), base W]) (fun _ i _ => n - (intOf i).toNat)
    case atStart => exact ⟨0, [], .slice none 0 0, by omega, by simp, rfl, rfl, H7⟩
    case round =>
      obtain ⟨k, L, vx, hk, hLk, rfl, rfl, HH⟩ := hrel
      obtain ⟨ax, cx, rfl⟩ := row_shape HH.swap
      by_cases hlt : k < n
      · obtain ⟨bb, oo, rfl, hc⟩ := HC.out k hlt
        have hb := HB.out k
        generalize zs.getD k 0 = z at *
        have hcw := hc _ _ _ HH
        clear hc
        by_cases hz : z < 0
        · obtain ⟨y, hy⟩ : ∃ y : Nat, -(z + 1) = (y : Int) := ⟨(-(z + 1)).toNat, by omega⟩
          have hw1 : IntKind.i64.wrap (-(z + 1)) = (y : Int) := by rw [hy]; exact IntWalk.i64_in _ (by omega)
          have hl5 : (chDropped L y).length ≤ 512 := by
            unfold chDropped
            split
            · have := List.length_erase_le (l := L) (a := (y : Int).toNat); omega
            · omega
          have hl6 : (chDropped L y).length ≤ k + 1 := by
            unfold chDropped
            split
            · have := List.length_erase_le (l := L) (a := (y : Int).toNat); omega
            · omega
          have c1 := cDrop HH y
          have c2 : Hid (∀ w' R, Holds E w' (row (.slice ax L.length cx) 3 1 L.length (ints (nats L)) :: R) → Calls Try.prog 49 #[.slice ax L.length cx, .int .i64 (y : Int)] w' (RetEx E (fun v' => .tuple #[v', .bool (decide (0 ≤ (y : Int) ∧ (y : Int).toNat ∈ L))]) (fun v' => row v' 3 1 (chDropped L y).length (ints (nats (chDropped L y))) :: R))) := Lib.hid fun w' R h => by
            have h1 := dropRow (x := nats L) (by rw [nats_length]; exact h) (by rw [nats_length]; omega) y
            rw [nats_drop, nats_length, decide_eq_decide.2 (nats_mem (l := L) (x := (y : Int)))] at h1
            exact h1
          generalize decide (0 ≤ (y : Int) ∧ (y : Int).toNat ∈ L) = bq at *
          generalize chDropped L y = L2 at *
          cases bq
          all_goals
            go_wp2_with fail
            refine c1.mono ?_
            rintro e w2 ⟨rfl, H2⟩
            go_wp2_with fail
            refine (c2.out _ _ H2.swap).mono ?_
            rintro e w3 ⟨v3, rfl, H3⟩
            have H5 := H3.swap
            obtain ⟨a3, c3, rfl⟩ := row_shape H3
            go_wp2_with fail
            refine (same_any H5 hl5 _).mono ?_
            rintro e w6 ⟨rfl, H6⟩
            go_wp2_with fail
            refine (same_any H6 hl5 _).mono ?_
            rintro e w7 ⟨rfl, H7⟩
            go_wp2_with fail
            go_roundw
            case rel => exact ⟨k + 1, L2, _, by omega, by omega, by go_num, rfl, H7⟩
            case measure => simp [intOf]; omega
        · have hl5 : (chPushed N L z).length ≤ 512 := by
            unfold chPushed
            split
            · have := List.length_erase_le (l := L) (a := z.toNat); simp; omega
            · omega
          have hl6 : (chPushed N L z).length ≤ k + 1 := by
            unfold chPushed
            split
            · have := List.length_erase_le (l := L) (a := z.toNat); simp; omega
            · omega
          have c1 := cPush HH z
          have c2 : Hid (∀ w' R, Holds E w' (row (.slice ax L.length cx) 3 1 L.length (ints (nats L)) :: R) → Calls Try.prog 50 #[.slice ax L.length cx, .int .i64 N, .int .i64 z] w' (RetEx E (fun v' => .tuple #[v', .bool (decide (0 ≤ z ∧ z < N))]) (fun v' => row v' 3 1 (chPushed N L z).length (ints (nats (chPushed N L z))) :: R))) := Lib.hid fun w' R h => by
            have h1 := pushRow (x := nats L) (by rw [nats_length]; exact h) (by rw [nats_length]; omega) N z
            rw [nats_push, nats_length] at h1
            exact h1
          generalize decide (0 ≤ z ∧ z < (N : Int)) = bq at *
          generalize chPushed N L z = L2 at *
          cases bq
          all_goals
            go_wp2_with fail
            refine c1.mono ?_
            rintro e w2 ⟨rfl, H2⟩
            go_wp2_with fail
            refine (retQ (HS.out _) H2).mono ?_
            rintro e w2 ⟨rfl, H2b⟩
            go_wp2_with fail
            refine (c2.out _ _ H2b.swap).mono ?_
            rintro e w3 ⟨v3, rfl, H3⟩
            have H5 := H3.swap
            obtain ⟨a3, c3, rfl⟩ := row_shape H3
            go_wp2_with fail
            refine (same_any H5 hl5 _).mono ?_
            rintro e w6 ⟨rfl, H6⟩
            go_wp2_with fail
            refine (same_any H6 hl5 _).mono ?_
            rintro e w7 ⟨rfl, H7⟩
            go_wp2_with fail
            go_roundw
            case rel => exact ⟨k + 1, L2, _, by omega, by omega, by go_num, rfl, H7⟩
            case measure => simp [intOf]; omega
      · obtain rfl : k = n := by omega
        go_wp2_with fail
        refine (lives03 HH).mono ?_
        rintro e w1 ⟨rfl, H1⟩
        go_wp2
        go_ret
        exact ⟨rfl, hbel _ _ H1.drop.drop⟩

theorem chainPlays_arg (W : World) (v0 v1 : Value) (a0 : Arg Try.prog W 3 v0) (a1 : Arg Try.prog W 56 v1) :
    Calls Try.prog 10 #[v0, v1] W fun e w' => e = .returned (.bool true) ∧ Below W.heap.size W w' := by
  obtain ⟨s, rfl, hs⟩ := a0.int Try.underlying3
  obtain ⟨zs, hr, hb, hz⟩ := a1.ints Try.underlying56 Try.underlying3 (by kernel_rfl)
  exact chainPlays_walk W s v1 _ zs (fun z h => wf_i64 (hz z h)) hr
end Go.Proofs.Ytfjdgjdkpmljkaa
