/-
  ChainOrders: the walk, and what the order of the pushes says.
-/
import Derived.Test.YtfjdgjdkpmljkaaChn6
import Derived.Test.YtfjdgjdkpmljkaaFlat
namespace Go.Proofs.Ytfjdgjdkpmljkaa
open Go.RowKit

structure Ord (L : List Nat) (ws : List Int) (i : Nat) : Prop where
  len : ws.length = 256
  pos : ∀ x, x < 256 → (x ∈ L ↔ ws.getD x 0 ≠ 0)
  rng : ∀ x, 0 ≤ ws.getD x 0 ∧ ws.getD x 0 ≤ i
  srt : L.Pairwise (fun a b => ws.getD a 0 < ws.getD b 0)

theorem Ord.start : Ord [] (List.replicate 256 0) 0 := by
  have h : ∀ x, (List.replicate 256 (0 : Int)).getD x 0 = 0 := by
    intro x
    generalize 256 = m
    simp only [List.getD, List.getElem?_replicate]
    split <;> rfl
  exact ⟨List.length_replicate, fun x _ => by rw [h]; simp, fun x => by rw [h]; omega, List.Pairwise.nil⟩

theorem Ord.push {L : List Nat} {ws : List Int} {i z : Nat} (h : Ord L ws i) (hn : L.Nodup) (hz : z < 256) : Ord (L.erase z ++ [z]) (ws.set z ((i : Int) + 1)) (i + 1) := by
  have hg : ∀ x, (ws.set z ((i : Int) + 1)).getD x 0 = if x = z then (i : Int) + 1 else ws.getD x 0 := fun x => getD_set (by rw [h.len]; exact hz)
  refine ⟨by simp [h.len], ?_, ?_, ?_⟩
  · intro x hx
    rw [hg]
    by_cases hxz : x = z
    · subst hxz; simp; omega
    · rw [if_neg hxz, ← h.pos x hx]
      simp [hxz, List.mem_erase_of_ne hxz]
  · intro x
    have := h.rng x
    rw [hg]; split <;> omega
  · rw [List.pairwise_append]
    refine ⟨?_, List.pairwise_singleton _ _, ?_⟩
    · refine List.Pairwise.imp_of_mem ?_ (h.srt.sublist List.erase_sublist)
      intro a b ha hb hab
      have na : a ≠ z := by rintro rfl; exact hn.not_mem_erase ha
      have nb : b ≠ z := by rintro rfl; exact hn.not_mem_erase hb
      rw [hg, hg, if_neg na, if_neg nb]; exact hab
    · intro a ha b hb
      obtain rfl : b = z := by simpa using hb
      have na : a ≠ b := by rintro rfl; exact hn.not_mem_erase ha
      have := h.rng a
      rw [hg, hg, if_neg na, if_pos rfl]; omega

theorem Ord.many {L : List Nat} {ws : List Int} {i z : Nat} (h : Ord L ws i) (hz : z < 256) : (L.erase z ++ [z]).length = if ws.getD z 0 = 0 then L.length + 1 else L.length := by
  rw [List.length_append, List.length_erase, List.length_singleton]
  have := h.pos z hz
  by_cases hm : z ∈ L
  · rw [if_pos hm, if_neg (this.1 hm)]
    have := List.length_pos_of_mem hm
    omega
  · rw [if_neg hm, if_pos (Classical.byContradiction fun hc => hm (this.2 hc))]

section
variable {e : Env} {w : World} {R : List HP}
set_option maxHeartbeats 400000 in
theorem lives03 (H : Holds e w R) : Calls Try.prog 31 #[] w (Ret e (.bool true) R) := by
  go_enter Try.func31, Try.ntmps31
  go_wp2_with fail
  refine (cNew H 5 5 (by decide)).mono ?_
  rintro e w1 ⟨b, rfl, H1⟩
  go_wp2_with fail
  refine (cPush H1 4).mono ?_
  rw [show chPushed 5 [] 4 = [4] by decide]
  rintro e w2 ⟨rfl, H2⟩
  go_wp2_with fail
  refine (cPush H2 2).mono ?_
  rw [show chPushed 5 [4] 2 = [4, 2] by decide]
  rintro e w3 ⟨rfl, H3⟩
  go_wp2_with fail
  refine (cPush H3 4).mono ?_
  rw [show chPushed 5 [4, 2] 4 = [2, 4] by decide]
  rintro e w4 ⟨rfl, H4⟩
  go_wp2_with fail
  refine (retQ (cOldest H4) H4).mono ?_
  rintro e w5 ⟨rfl, H5⟩
  have h0 : hd0 [2, 4] = 2 := rfl
  rw [h0]
  have h1 : decide ([2, 4] ≠ ([] : List Nat)) = true := by decide
  rw [h1]
  go_wp2_with fail
  refine (retQ (cLen H5) H5).mono ?_
  rintro e w6 ⟨rfl, H6⟩
  go_wp2
  go_ret
  exact ⟨rfl, H6.drop⟩
end

set_option maxRecDepth 100000 in
set_option maxHeartbeats 1000000 in
theorem chainOrders_walk (W : World) (v : Value) (n : Nat) (zs : List Int)
    (hz : ∀ z ∈ zs, 0 ≤ z ∧ z ≤ 255) (hn : n * 1 ≤ 140737488351232) (hr : Reads W v 1 n (zs.map (Value.int .u8))) :
    Calls Try.prog 6 #[v] W fun e w' => e = .returned (.bool true) ∧ Below W.heap.size W w' := by
  have H0 := Holds.start W
  generalize hE : (⟨W.os, W.output, W.tape⟩ : Env) = E at *
  have hbel : ∀ w' A, Holds E w' (base W :: A) → Below W.heap.size W w' := fun w' A h => by subst hE; exact h.below rfl rfl rfl
  clear hE
  obtain ⟨ad, c, rfl⟩ := hr.shape
  have hlen : zs.length = n := by have := hr.len; simpa using this
  by_cases hbig : 300 < n
  · go_enter Try.func6, Try.ntmps6
    go_wp2_with fail
    refine (lives03 H0).mono ?_
    rintro e w1 ⟨rfl, H1⟩
    go_wp2
    go_ret
    exact ⟨rfl, hbel _ _ H1⟩
  · have hcell : ∀ k, k < n → ∃ b o, ad = some ⟨b, o, none⟩ ∧ b < W.heap.size ∧ W.cell? ⟨b, o + k, none⟩ = some (.int .u8 (zs.getD k 0)) := by
      intro k hk
      obtain ⟨b, o, rfl, hc⟩ := hr.at (by omega)
      have := hc k (.int .u8 (zs.getD k 0)) (by simp [List.getD, List.getElem?_eq_getElem (show k < zs.length by omega)])
      exact ⟨b, o, rfl, World.block_lt_of_cell? _ _ this, this⟩
    have hbd : ∀ k, k < n → 0 ≤ zs.getD k 0 ∧ zs.getD k 0 ≤ 255 := by
      intro k hk
      refine hz _ ?_
      simp [List.getD, List.getElem?_eq_getElem (show k < zs.length by omega)]
    clear hz hr hlen
    have HC := Lib.hid hcell
    have HB := Lib.hid hbd
    clear hcell hbd
    go_enter Try.func6, Try.ntmps6
    go_wp2_with fail
    refine (cNew H0 256 256 (by decide)).mono ?_
    rintro e w1 ⟨b, rfl, H1⟩
    go_wp2
    have H2 := (H1.alloc (.cells Try.zeroCells52 52))
    have hz52 : Try.zeroCells52 = (ints (List.replicate 256 0)).toArray := by kernel_rfl
    rw [hz52] at H2
    generalize w1.heap.size = bw at *
    go_loopw [5, 6] (fun q i wr => ∃ (k : Nat) (L : List Nat) (ws : List Int), k ≤ n ∧ i = .int .i64 (k : Nat) ∧ q = .int .i64 (L.length : Nat) ∧ Hid (Ord L ws k) ∧ Holds E wr [pts bw (.cells (ints ws).toArray 52 (0, 0)), chn b 256 L, base W]) (fun _ i _ => n - (intOf i).toNat)
    case atStart =>
      refine ⟨0, [], List.replicate 256 0, by omega, rfl, rfl, Lib.hid Ord.start, ?_⟩
      rw [hz52]; exact H2
    case round =>
      obtain ⟨k, L, ws, hk, rfl, rfl, HO, HH⟩ := hrel
      have HF := chn_facts HH.drop
      have hLl : L.length ≤ 256 := HF.2.2.2
      by_cases hlt : k < n
      · obtain ⟨bb, oo, rfl, hbb, hc⟩ := HC.out k hlt
        have hcw : wr.cell? ⟨bb, oo + k, none⟩ = some (.int .u8 (zs.getD k 0)) := by rw [← hc]; exact World.cell?_of_block (w := W) (HH.drop.drop.baseE hbb)
        obtain ⟨hz0, hz1⟩ := HB.out k hlt
        generalize zs.getD k 0 = z at *
        obtain ⟨y, rfl⟩ : ∃ y : Nat, z = (y : Int) := ⟨z.toNat, by omega⟩
        have hy : y < 256 := by omega
        have HO2 := HO.out.push HF.1 hy
        have hmany := HO.out.many hy
        have hwl := HO.out.len
        have hwr := HO.out.rng y
        have hW : wr.cell? ⟨bw, y, none⟩ = some (.int .i64 (ws.getD y 0)) := by rw [HH.cells, intsA_get (by omega)]
        clear HF
        obtain ⟨o, ho⟩ : ∃ o, ws.getD y 0 = o := ⟨_, rfl⟩
        rw [ho] at hW hmany hwr
        have HO3 := Lib.hid ho
        clear ho
        go_wp2_with fail
        refine (cPush HH.swap y).mono ?_
        rw [show chPushed 256 L y = L.erase y ++ [y] by unfold chPushed; rw [if_pos (by omega)]; simp]
        generalize L.erase y ++ [y] = L2 at *
        rintro e w3 ⟨rfl, H3⟩
        have HO2' := Lib.hid HO2
        clear HO2 HO hcw hW
        have hW : w3.cell? ⟨bw, y, none⟩ = some (.int .i64 o) := by
          rw [H3.swap.cells, intsA_get (by omega), HO3.out]
        have hfr := H3.swap.frozen
        have hcw : w3.cell? ⟨bb, oo + k, none⟩ = some (.int .u8 (y : Int)) := by rw [← hc]; exact World.cell?_of_block (w := W) (H3.drop.drop.baseE hbb)
        have H4 := H3.swap.set y (.int .i64 ((k : Int) + 1))
        rw [ints_set] at H4
        by_cases h0 : o = 0
        all_goals
          first | rw [if_pos h0] at hmany | rw [if_neg h0] at hmany
          have HM := Lib.hid hmany
          clear hmany
          go_wp2_with fail
          go_roundw
          case rel => exact ⟨k + 1, L2, _, by omega, by go_num, by rw [HM.out] <;> rfl, HO2', H4⟩
          case measure => simp [intOf]; omega
      · obtain rfl : k = n := by omega
        have hO := HO.out
        have hs := hO.srt
        have hr0 : ∀ x ∈ L, 0 < ws.getD x 0 := by
          intro x hx
          have h1 := (hO.pos x (HF.2.1 x hx)).1 hx
          have h2 := hO.rng x
          omega
        have hws := hO.len
        have hin := HF.2.1
        have hrng := hO.rng
        clear hO HO HC HB
        have HS := Lib.hid hs
        have HR := Lib.hid hr0
        have HI := Lib.hid hin
        have HG := Lib.hid hrng
        clear hs hr0 hin hrng HF
        go_wp2_with fail
        go_loopw [7, 8] (fun q i wr => ∃ (k : Nat) (z : Int) (M : List Nat), k + M.length = L.length ∧ i = .int .i64 (k : Nat) ∧ q = .int .i64 z ∧ 0 ≤ z ∧ z ≤ 300 ∧ Hid (M.Pairwise (fun a b => ws.getD a 0 < ws.getD b 0)) ∧ Hid (∀ x ∈ M, z < ws.getD x 0) ∧ Hid (∀ x ∈ M, x < 256) ∧ Holds E wr [pts bw (.cells (ints ws).toArray 52 (0, 0)), chn b 256 M, base W]) (fun _ i _ => L.length - (intOf i).toNat)
        case atStart => exact ⟨0, 0, L, by omega, rfl, rfl, by omega, by omega, HS, HR, HI, HH⟩
        case round =>
          clear HS HR HI HH
          obtain ⟨k, z, M, hk, rfl, rfl, hz0, hz1, HS, HR, HI, HH⟩ := hrel
          cases M with
          | nil =>
            obtain rfl : k = L.length := by simpa using hk
            go_wp2_with fail
            refine (retQ (cLen HH.swap) HH.swap).mono ?_
            rintro e w4 ⟨rfl, H4⟩
            go_wp2_with fail
            refine (lives03 H4).mono ?_
            rintro e w5 ⟨rfl, H5⟩
            go_wp2
            go_ret
            exact ⟨rfl, hbel _ _ H5.drop.drop⟩
          | cons x M =>
            have hx : x < 256 := HI.out x (by simp)
            have hx2 := HR.out x (by simp)
            have hx3 := HG.out x
            have hnx := chn_facts HH.drop
            have hnd : x ∉ M := (List.nodup_cons.1 hnx.1).1
            have hS2 := List.pairwise_cons.1 HS.out
            have hW : wr.cell? ⟨bw, x, none⟩ = some (.int .i64 (ws.getD x 0)) := by rw [HH.cells, intsA_get (by omega)]
            have HR2 := Lib.hid hS2.1
            have HS2 := Lib.hid hS2.2
            have HI2 : Hid (∀ x ∈ M, x < 256) := Lib.hid fun y hy => HI.out y (by simp [hy])
            have hco := cOldest HH.swap
            rw [show decide (x :: M ≠ []) = true by simp, show hd0 (x :: M) = (x : Int) from rfl] at hco
            have hWw : ∀ w', Holds E w' [pts bw (.cells (ints ws).toArray 52 (0, 0)), chn b 256 (x :: M), base W] → w'.cell? ⟨bw, x, none⟩ = some (.int .i64 (ws.getD x 0)) := fun w' h => by rw [h.cells, intsA_get (by omega)]
            have hWz : ∀ w', Holds E w' [chn b 256 M, pts bw (.cells (ints ws).toArray 52 (0, 0)), base W] → w'.cell? ⟨bw, x, none⟩ = some (.int .i64 (ws.getD x 0)) := fun w' h => by rw [h.swap.cells, intsA_get (by omega)]
            have HWw := Lib.hid hWw
            have HWz := Lib.hid hWz
            have hkl : k < L.length := by simp at hk; omega
            have hk' : k + 1 + M.length = L.length := by simp at hk; omega
            clear HS HR HI hnx hS2 hWw hWz hk
            generalize ws.getD x 0 = o at *
            go_wp2_with fail
            refine (retQ hco HH.swap).mono ?_
            rintro e w4 ⟨rfl, H4⟩
            clear hco hW
            have hW := HWw.out _ H4.swap
            go_wp2_with fail
            refine (cDrop H4 x).mono ?_
            rw [show decide (0 ≤ (x : Int) ∧ (x : Int).toNat ∈ x :: M) = true by simp, show chDropped (x :: M) x = M by simp [chDropped]]
            rintro e w5 ⟨rfl, H5⟩
            clear hW
            have hW := HWz.out _ H5
            go_wp2_with fail
            go_roundw
            case rel => exact ⟨k + 1, o, M, hk', by go_num, rfl, by omega, by omega, HS2, HR2, HI2, H5.swap⟩
            case measure => simp [intOf]; omega

theorem chainOrders_arg (W : World) (v0 : Value) (a0 : Arg Try.prog W 42 v0) :
    Calls Try.prog 6 #[v0] W fun e w' => e = .returned (.bool true) ∧ Below W.heap.size W w' := by
  obtain ⟨zs, hr, hb, hz⟩ := a0.ints Try.underlying42 Try.underlying5 (by kernel_rfl)
  have h8 : Try.prog.bytesOf 5 = 1 := by kernel_rfl
  rw [h8] at hb
  exact chainOrders_walk W v0 _ zs (fun z h => wf_u8 (hz z h)) hb hr
end Go.Proofs.Ytfjdgjdkpmljkaa
