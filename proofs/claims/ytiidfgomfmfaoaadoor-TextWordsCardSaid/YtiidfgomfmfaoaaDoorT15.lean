/-
  Text: choices.
-/
import Derived.Test.YtiidfgomfmfaoaaDoorT14
import Derived.Laws.MakeOwn
namespace Go.Proofs.YtiidfgomfmfaoaaDoor
open Go.RowKit

/-- Through ad the choices L are read. -/
def ChR (w : World) (ad : Option Addr) (L : List Bool) : Prop := ∀ i, i < L.length → ∃ b o, ad = some ⟨b, o, none⟩ ∧ w.cell? ⟨b, o + i, none⟩ = some (.bool (L.getD i false))
theorem ChR.below {w w' : World} {ad : Option Addr} {L : List Bool} (h : ChR w ad L) (hb : Below w.heap.size w w') : ChR w' ad L := by
  intro i hi
  obtain ⟨b, o, h1, h2⟩ := h i hi
  exact ⟨b, o, h1, (hb.cell (p := ⟨b, o + i, none⟩) (World.block_lt_of_cell? _ _ h2)).trans h2⟩
/-- Choices' word. -/
def chL (L : List Bool) : List UInt8 := L.map (fun b => if b then 43 else 45)
def u8s (xs : List UInt8) : Array Value := (xs.map (fun x => Value.int .u8 (x.toNat : Int))).toArray
theorem u8s_set (xs : List UInt8) (i : Nat) (x : UInt8) (v : Int) (hv : (x.toNat : Int) = v) : (u8s xs).setIfInBounds i (.int .u8 v) = u8s (xs.set i x) := by
  subst hv
  simp [u8s, List.map_set]

section
variable {w : World}
theorem made8 (n : Nat) : madeCells #[Value.int .u8 0] n = u8s (List.replicate n 0) := by
  apply Array.toList_inj.1
  simp [madeCells, u8s, Array.toList_range, List.map_const', Nat.mod_one]
theorem mk8 (n : Nat) (hn : n ≤ 5000) (W : World) : (Instr.makeSlice 36 (.int .i64 n) (.int .i64 n)).run Tryd.prog W = .ok (.slice (some ⟨W.heap.size, 0, none⟩) n n) (W.alloc (.cells (u8s (List.replicate n 0)) 5)) := by
  obtain ⟨i0, hi, hz0, hz1, hz2⟩ := info_parts (P := Tryd.prog) (e := 5) (z := .int .u8 0) (size := 1) (bytes := 1) (by kernel_rfl)
  have h := run_make (P := Tryd.prog) W 36 5 i0 (.int .u8 0) (by kernel_rfl) hi hz0 .i64 .i64 (n : Int) (n : Int) (by omega) (by omega) (by rw [hz2]; omega) (by omega)
  rw [hz1] at h
  simpa [made8, Value.cells] using h
theorem conv8 (E : Env) (A : List HP) (bb n : Nat) (xs : List UInt8) (hl : xs.length = n) (W : World) (H : Holds E W (pts bb (.cells (u8s xs) 5) :: A)) : (convert 36 9 (.slice (some ⟨bb, 0, none⟩) n n)).run Tryd.prog W = .ok ((Value.string ⟨List.toArray (xs)⟩)) W := by
  subst hl
  refine run_convert_bytes_back (P := Tryd.prog) _ _ _ 5 ⟨bb, 0, none⟩ _ xs (by kernel_rfl) (by kernel_rfl) (by kernel_rfl) ?_
  intro j hj
  rw [Addr.add_at, Nat.zero_add, H.cells j]
  simp [u8s, hj]

set_option maxRecDepth 100000 in
set_option maxHeartbeats 2000000 in
theorem choices_any (ad : Option Addr) (n c : Nat) (L : List Bool) (hl : L.length = n) (hn : n ≤ 5000) (hC : ChR w ad L) :
    Calls Tryd.prog 21 #[.slice ad n c] w (Pur w ((Value.string ⟨List.toArray (chL L)⟩))) := by
  have HC := Lib.hid hC
  clear hC
  have H0 := Holds.start w
  generalize hE : (⟨w.os, w.output, w.tape⟩ : Env) = E at *
  have hbel : ∀ w' A, Holds E w' (base w :: A) → Below w.heap.size w w' := fun w' A h => by subst hE; exact h.below rfl rfl rfl
  have HBL := Lib.hid hbel
  clear hE hbel
  have hmk := mk8 n hn
  have H1 := H0.alloc (.cells (u8s (List.replicate n 0)) 5)
  obtain ⟨bb, hbb⟩ : ∃ x, w.heap.size = x := ⟨_, rfl⟩
  rw [hbb] at H1
  go_enter Tryd.func21, Tryd.ntmps21
  go_wp2
  refine code_at H1 (fun wf HF => ?_)
  clear hmk
  go_loopw [11] (fun i wr => ∃ k : Nat, k ≤ n ∧ i = .int .i64 (k : Nat) ∧ ∃ xs : List UInt8, xs.length = n ∧ Hid (∀ j, j < k → xs[j]? = (chL L)[j]?) ∧ Holds E wr [pts bb (.cells (u8s xs) 5), base w]) (fun i _ => n - (intOf i).toNat)
  case atStart => exact ⟨0, by omega, rfl, List.replicate n 0, by simp, Lib.hid (fun j hj => absurd hj (by omega)), HF⟩
  case round =>
    obtain ⟨k, hk, rfl, xs, hx, HX, HW⟩ := hrel
    by_cases hlt : k < n
    · obtain ⟨b, o, rfl, c0⟩ := (HC.out.below (HBL.out _ _ HW.drop)) k (by omega)
      have hf := HW.frozen
      have hcs := HW.cells
      have hls : (u8s xs).size = n := by simp [u8s, hx]
      have hin : (u8s xs)[k]? = some (.int .u8 (xs[k].toNat : Int)) := by simp [u8s, hx, hlt]
      have hck := hcs k
      rw [hin] at hck
      have hv : (chL L)[k]? = some (if L.getD k false then 43 else 45) := by simp [chL, hl, hlt]
      have HS1 := HW.set k (.int .u8 45)
      rw [u8s_set xs k 45 45 rfl] at HS1
      have hf1 := HS1.frozen
      have hck1 := HS1.cells k
      rw [show (u8s (xs.set k 45))[k]? = some (.int .u8 45) by simp [u8s, hx, hlt]] at hck1
      have HS2 := HS1.set k (.int .u8 43)
      rw [u8s_set (xs.set k 45) k 43 43 rfl, List.set_set] at HS2
      cases hq : L.getD k false
      all_goals
        rw [hq] at c0 hv
        have HV := Lib.hid hv
        clear hq hv hin hcs
        go_wp2
        go_roundw
        case measure => simp [intOf]; omega
      · refine ⟨k + 1, by omega, by go_num, xs.set k 45, by simp [hx], Lib.hid ?_, HS1⟩
        intro j hj
        by_cases hjk : j = k
        · subst hjk; rw [HV.out]; simp [hx, hlt]
        · rw [← HX.out j (by omega)]; simp [Ne.symm hjk]
      · refine ⟨k + 1, by omega, by go_num, xs.set k 43, by simp [hx], Lib.hid ?_, HS2⟩
        intro j hj
        by_cases hjk : j = k
        · subst hjk; rw [HV.out]; simp [hx, hlt]
        · rw [← HX.out j (by omega)]; simp [Ne.symm hjk]
    · obtain hkn : k = n := by omega
      subst hkn
      obtain rfl : xs = chL L := List.ext_getElem? fun j => by
        by_cases hj : j < k
        · exact HX.out j hj
        · rw [List.getElem?_eq_none (by omega), List.getElem?_eq_none (by simp [chL]; omega)]
      have hcv := conv8 E _ bb k _ hx _ HW
      clear HX
      generalize chL L = t at *
      go_wp2
      go_ret
      exact ⟨rfl, HBL.out _ _ HW.drop⟩
end
end Go.Proofs.YtiidfgomfmfaoaaDoor
