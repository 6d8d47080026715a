/-
  ChainStops: the walk.
-/
import Derived.Test.YtfjdgjdkpmljkaaChn8
import Derived.Deep.RegionHeld3
namespace Go.Proofs.Ytfjdgjdkpmljkaa
open Go.RowKit

theorem takeM_len {α : Type} (m : Int) (l : List α) : ((takeM m l).length : Int) = if 0 < m ∧ m < l.length then m else l.length := by
  unfold takeM
  split
  · simp; omega
  · rfl

set_option maxRecDepth 100000 in
set_option maxHeartbeats 4000000 in
theorem chainStops_walk (W : World) (v : Value) (n : Nat) (zs : List Int) (m : Int)
    (hz : ∀ z ∈ zs, -9223372036854775808 ≤ z ∧ z ≤ 9223372036854775807) (hm0 : -9223372036854775808 ≤ m) (hm1 : m ≤ 9223372036854775807) (hr : Reads W v 1 n (ints zs)) :
    Calls Try.prog 11 #[v, .int .i64 m] W fun e w' => e = .returned (.bool true) ∧ Below W.heap.size W w' := by
  have H0 := Holds.start W
  generalize hE : (⟨W.os, W.output, W.tape⟩ : Env) = E at *
  have hbel : ∀ w' A, Holds E w' (base W :: A) → Below W.heap.size W w' := fun w' A h => by subst hE; exact h.below rfl rfl rfl
  clear hE
  obtain ⟨ad, c, rfl⟩ := hr.shape
  have hlen : zs.length = n := by have := hr.len; simpa using this
  by_cases hbig : 100 < n
  · go_enter Try.func11, Try.ntmps11
    go_wp2_with fail
    refine (lives03 H0).mono ?_
    rintro e w1 ⟨rfl, H1⟩
    go_wp2
    go_ret
    exact ⟨rfl, hbel _ _ H1⟩
  · have HC : Hid (∀ k, k < n → ∃ b o, ad = some ⟨b, o, none⟩ ∧ ∀ w' R, Holds E w' (R :: [base W]) → w'.cell? ⟨b, o + k, none⟩ = some (.int .i64 (zs.getD k 0))) := Lib.hid fun k hk => by
      obtain ⟨b, o, h1, h2, h3⟩ := flat_at hr (by simpa using hlen) k 0 hk (by omega)
      refine ⟨b, o, h1, fun w' R h => ?_⟩
      have h4 := h3 0 (by omega)
      simp only [Nat.mul_one, Nat.add_zero] at h4
      rw [← h4]; exact World.cell?_of_block (w := W) (h.drop.baseE h2)
    have HB := Lib.hid fun k => getD_bd hz k
    clear hz hr hlen
    go_enter Try.func11, Try.ntmps11
    go_wp2_with fail
    refine (cNew H0 200 200 (by decide)).mono ?_
    rintro e w1 ⟨b, rfl, H1⟩
    go_wp2
    go_loopw [6] (fun i wr => ∃ (k : Nat) (L : List Nat), k ≤ n ∧ i = .int .i64 (k : Nat) ∧ Holds E wr [chn b 200 L, base W]) (fun i _ => n - (intOf i).toNat)
    case atStart => exact ⟨0, [], by omega, rfl, H1⟩
    case round =>
      obtain ⟨k, L, hk, rfl, HH⟩ := hrel
      by_cases hlt : k < n
      · obtain ⟨bb, oo, rfl, hc⟩ := HC.out k hlt
        have hb := HB.out k
        generalize zs.getD k 0 = z at *
        have HP : Hid (∀ w', Holds E w' [chn b 200 L, base W] → Calls Try.prog 33 #[.pointer (some ⟨b, 0, none⟩), .int .i64 z] w' (Ret E (.bool (decide (0 ≤ z ∧ z < 200))) [chn b 200 (chPushed 200 L z), base W])) := Lib.hid fun w' h => cPush h z
        have hcw := hc _ _ HH
        have HC' := Lib.hid hc
        clear hc
        generalize chPushed 200 L z = L2 at *
        have hzc : (z < 0 ∧ decide (0 ≤ z ∧ z < 200) = false) ∨ (0 ≤ z ∧ z < 200 ∧ decide (0 ≤ z ∧ z < 200) = true) ∨ (0 ≤ z ∧ 200 ≤ z ∧ decide (0 ≤ z ∧ z < 200) = false) := by
          by_cases h1 : 0 ≤ z
          · by_cases h2 : z < 200
            · exact .inr (.inl ⟨h1, h2, by simp [h1, h2]⟩)
            · exact .inr (.inr ⟨h1, by omega, by simp [h2]⟩)
          · exact .inl ⟨by omega, by simp [h1]⟩
        have hzc' : (z < 0 ∧ decide (0 ≤ z) = false ∧ decide (0 ≤ z ∧ z < 200) = false) ∨ (0 ≤ z ∧ z < 200 ∧ decide (0 ≤ z) = true ∧ decide (z < 200) = true ∧ decide (0 ≤ z ∧ z < 200) = true) ∨ (0 ≤ z ∧ 200 ≤ z ∧ decide (0 ≤ z) = true ∧ decide (z < 200) = false ∧ decide (0 ≤ z ∧ z < 200) = false) := by
          rcases hzc with ⟨h1, hd⟩ | ⟨h1, h2, hd⟩ | ⟨h1, h2, hd⟩
          · exact .inl ⟨h1, by simp [h1], hd⟩
          · exact .inr (.inl ⟨h1, h2, by simp [h1], by simp [h2], hd⟩)
          · exact .inr (.inr ⟨h1, h2, by simp [h1], by simp [h2], hd⟩)
        clear hzc
        rcases hzc' with ⟨h1, g1, hd⟩ | ⟨h1, h2, g1, g2, hd⟩ | ⟨h1, h2, g1, g2, hd⟩
        · rw [hd] at HP
          clear hd
          go_wp2_with fail
          have HD := HH.drawn (wr.drawn + 1)
          first
            | go_region_with (first | (go_at_call 33; refine (HP.out _ (by assumption)).mono ?_; rintro e w4 ⟨rfl, HN⟩; have hcw4 := HC'.out _ _ HN))
            | fail
          all_goals
            go_wp2
            go_roundw
            case rel => exact ⟨k + 1, L2, by omega, by go_num, HN⟩
            case measure => simp [intOf]; omega
        · rw [hd] at HP
          clear hd
          go_wp2_with fail
          have HD := HH.drawn (wr.drawn + 1)
          go_region_held3 (fun w' => w'.cell? ⟨bb, oo + k, none⟩ = some (.int .i64 z))
            (exact HC'.out _ _ (by assumption))
            (first | (go_at_call 33; refine (HP.out _ (by assumption)).mono ?_; rintro e w4 ⟨rfl, HN⟩))
          all_goals
            go_wp2
            go_roundw
            case rel => exact ⟨k + 1, L2, by omega, by go_num, HN⟩
            case measure => simp [intOf]; omega
        · rw [hd] at HP
          clear hd
          go_wp2_with fail
          have HD := HH.drawn (wr.drawn + 1)
          go_region_held3 (fun w' => w'.cell? ⟨bb, oo + k, none⟩ = some (.int .i64 z))
            (exact HC'.out _ _ (by assumption))
            (first | (go_at_call 33; refine (HP.out _ (by assumption)).mono ?_; rintro e w4 ⟨rfl, HN⟩))
          all_goals
            go_wp2
            go_roundw
            case rel => exact ⟨k + 1, L2, by omega, by go_num, HN⟩
            case measure => simp [intOf]; omega
      · obtain rfl : k = n := by omega
        have hf := chn_facts HH
        clear HC HB
        have hmn := takeM_len m L
        by_cases h0 : 0 < m
        · by_cases h1 : m < L.length
          · rw [if_pos ⟨h0, h1⟩] at hmn
            go_wp2_with fail
            refine (retQ (cLen HH) HH).mono ?_
            rintro e w4 ⟨rfl, H4⟩
            go_wp2_with fail
            refine (all_any H4 m).mono ?_
            generalize takeM m L = L2 at *
            rintro e w5 ⟨v5, rfl, H5⟩
            obtain ⟨a5, c5, rfl⟩ := row_shape H5
            go_wp2_with fail
            refine (lives03 H5).mono ?_
            rintro e w6 ⟨rfl, H6⟩
            go_wp2
            go_ret
            exact ⟨rfl, hbel _ _ H6.drop.drop⟩
          · rw [if_neg (fun h => h1 h.2)] at hmn
            go_wp2_with fail
            refine (retQ (cLen HH) HH).mono ?_
            rintro e w4 ⟨rfl, H4⟩
            go_wp2_with fail
            refine (all_any H4 m).mono ?_
            generalize takeM m L = L2 at *
            rintro e w5 ⟨v5, rfl, H5⟩
            obtain ⟨a5, c5, rfl⟩ := row_shape H5
            go_wp2_with fail
            refine (lives03 H5).mono ?_
            rintro e w6 ⟨rfl, H6⟩
            go_wp2
            go_ret
            exact ⟨rfl, hbel _ _ H6.drop.drop⟩
        · rw [if_neg (fun h => h0 h.1)] at hmn
          go_wp2_with fail
          refine (retQ (cLen HH) HH).mono ?_
          rintro e w4 ⟨rfl, H4⟩
          go_wp2_with fail
          refine (all_any H4 m).mono ?_
          generalize takeM m L = L2 at *
          rintro e w5 ⟨v5, rfl, H5⟩
          obtain ⟨a5, c5, rfl⟩ := row_shape H5
          go_wp2_with fail
          refine (lives03 H5).mono ?_
          rintro e w6 ⟨rfl, H6⟩
          go_wp2
          go_ret
          exact ⟨rfl, hbel _ _ H6.drop.drop⟩

theorem chainStops_arg (W : World) (v0 v1 : Value) (a0 : Arg Try.prog W 56 v0) (a1 : Arg Try.prog W 3 v1) :
    Calls Try.prog 11 #[v0, v1] W fun e w' => e = .returned (.bool true) ∧ Below W.heap.size W w' := by
  obtain ⟨zs, hr, hb, hz⟩ := a0.ints Try.underlying56 Try.underlying3 (by kernel_rfl)
  obtain ⟨m, rfl, hm⟩ := a1.int Try.underlying3
  exact chainStops_walk W v0 _ zs m (fun z h => wf_i64 (hz z h)) (wf_i64 hm).1 (wf_i64 hm).2 hr
end Go.Proofs.Ytfjdgjdkpmljkaa
