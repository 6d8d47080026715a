/-
  Layer 47, HeapOpens: the law's arguments.
-/
import Derived.Test.YtjbphdjheklhbaaHo4
namespace Go.Proofs.Ytjbphdjheklhbaa
open Go.RowKit Go.ChangeShapes Go.WideShapes Go.ChangeAt

theorem u8_list {zs : List Int} (h : ∀ z ∈ zs, 0 ≤ z ∧ z ≤ 255) : ∃ b : List UInt8, zs.map (Value.int .u8) = u8v b ∧ b.length = zs.length := by
  refine ⟨zs.map fun z => UInt8.ofNat z.toNat, ?_, by simp⟩
  unfold u8v
  rw [List.map_map]
  apply List.map_congr_left
  intro z hz
  have := h z hz
  simp only [Function.comp]
  congr 1
  rw [UInt8.toNat_ofNat']
  omega
theorem opens_arg (W : World) (v0 v1 : Value) (a0 : Arg Try.prog W 22 v0) (a1 : Arg Try.prog W 5 v1) :
    Calls Try.prog 3 #[v0, v1] W (fun e w' => e = .returned (.bool true) ∧ Below W.heap.size W w') := by
  obtain ⟨n, rfl, hw⟩ := a1.int (k := .u8) (by kernel_rfl)
  obtain ⟨zs, hr, hb, hz⟩ := a0.ints (e := 5) (k := .u8) (by kernel_rfl) (by kernel_rfl) (by kernel_rfl)
  have h1 := wf_u8 hw
  have hbb : Try.prog.bytesOf 5 = 1 := by kernel_rfl
  rw [hbb] at hb
  obtain ⟨x, rfl⟩ : ∃ x : Nat, n = x := ⟨n.toNat, by omega⟩
  obtain ⟨b, e1, e2⟩ := u8_list fun z hz' => wf_u8 (hz z hz')
  have hl : b.length ≤ 4611686018427387904 := by unfold reachBytes at hb; omega
  refine opens_walk b hl v0 x (by omega) W ?_
  unfold RdB
  rw [e2, ← e1]
  exact hr
end Go.Proofs.Ytjbphdjheklhbaa
