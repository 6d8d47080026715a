/-
  Layer 47, HeapApart: the law's arguments.
-/
import Derived.Test.YtjbphdjheklhbaaApd
namespace Go.Proofs.Ytjbphdjheklhbaa
open Go.RowKit Go.ChangeShapes Go.WideShapes Go.ChangeAt

theorem apart_arg (W : World) (v0 v1 : Value) (a0 : Arg Try.prog W 43 v0) (a1 : Arg Try.prog W 44 v1) :
    Calls Try.prog 4 #[v0, v1] W (fun e w' => e = .returned (.bool true) ∧ Below W.heap.size W w') := by
  obtain ⟨n, rfl, hw⟩ := a0.int (k := .u16) (by kernel_rfl)
  obtain ⟨zs, hr, hb, hz⟩ := a1.ints (e := 43) (k := .u16) (by kernel_rfl) (by kernel_rfl) (by kernel_rfl)
  have h1 := wf_u16 hw
  have hbb : Try.prog.bytesOf 43 = 2 := by kernel_rfl
  rw [hbb] at hb
  obtain ⟨s, rfl⟩ : ∃ s : Nat, n = s := ⟨n.toNat, by omega⟩
  have hl : zs.length ≤ 4611686018427387904 := by unfold reachBytes at hb; omega
  exact apart_walk s (by omega) zs (fun z hz' => wf_u16 (hz z hz')) v1 W hr hl
end Go.Proofs.Ytjbphdjheklhbaa
