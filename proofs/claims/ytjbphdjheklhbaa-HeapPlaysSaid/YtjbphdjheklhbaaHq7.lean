/-
  Layer 47, HeapPlays: the law's arguments.
-/
import Derived.Test.YtjbphdjheklhbaaHq6
namespace Go.Proofs.Ytjbphdjheklhbaa
open Go.RowKit Go.ChangeShapes Go.WideShapes Go.ChangeAt

theorem wf_u64 {z : Int} (h : (Lit.int .u64 z).wf = true) : 0 ≤ z ∧ z ≤ 18446744073709551615 := by
  simp [Lit.wf, IntKind.min, IntKind.max, IntKind.signed, IntKind.bits] at h; omega

set_option maxRecDepth 100000 in
theorem plays_arg (W : World) (v0 v1 v2 : Value) (a0 : Arg Try.prog W 28 v0) (a1 : Arg Try.prog W 3 v1) (a2 : Arg Try.prog W 55 v2) :
    Calls Try.prog 5 #[v0, v1, v2] W (fun e w' => e = .returned (.bool true) ∧ Below W.heap.size W w') := by
  obtain ⟨n, rfl, hw⟩ := a0.int (k := .u64) (by kernel_rfl)
  obtain ⟨z, rfl, hz⟩ := a1.int (k := .i64) (by kernel_rfl)
  obtain ⟨m, xs, hr, hb, hf⟩ := a2.slice (e := 63) (by kernel_rfl)
  have hc : Try.prog.cellsOf 63 = 2 := by kernel_rfl
  have hbb : Try.prog.bytesOf 63 = 16 := by kernel_rfl
  rw [hc] at hr hf
  rw [hbb] at hb
  obtain ⟨zs, rfl, hl, hzs⟩ := arg_flatInts hr hf (fun j hj => by
    match j, hj with
    | 0, _ => exact ⟨3, by kernel_rfl, Try.underlying3⟩
    | 1, _ => exact ⟨3, by kernel_rfl, Try.underlying3⟩)
  have h1 := wf_u64 hw
  have h2 := wf_i64 hz
  obtain ⟨s, rfl⟩ : ∃ s : Nat, n = s := ⟨n.toNat, by omega⟩
  have hm : m ≤ 4611686018427387904 := by unfold reachBytes at hb; omega
  exact plays_walk s (by omega) z h2.1 h2.2 zs m hl (fun z hz' => wf_i64 (hzs z hz')) hm v2 W hr
end Go.Proofs.Ytjbphdjheklhbaa
