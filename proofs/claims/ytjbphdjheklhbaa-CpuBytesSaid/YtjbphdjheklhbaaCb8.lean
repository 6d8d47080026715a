/-
  Layer 48, CpuBytes: the law's arguments.
-/
import Derived.Test.YtjbphdjheklhbaaCb7
namespace Go.Proofs.Ytjbphdjheklhbaa
open Go.RowKit Go.ChangeShapes Go.WideShapes Go.ChangeAt

theorem u8_list {zs : List Int} (h : ∀ z ∈ zs, 0 ≤ z ∧ z ≤ 255) : ∃ b : List UInt8, zs.map (Value.int .u8) = u8v b ∧ b.length = zs.length := by
  refine ⟨zs.map fun z => UInt8.ofNat z.toNat, ?_, by simp⟩
  unfold u8v
  rw [List.map_map]
  apply List.map_congr_left
  intro z hz
  have := h z hz
  simp only [Function.comp, UInt8.toNat_ofNat']
  congr 1
  omega
theorem wf_i32 {z : Int} (h : (Lit.int .i32 z).wf = true) : -2147483648 ≤ z ∧ z ≤ 2147483647 := by
  simp [Lit.wf, IntKind.min, IntKind.max, IntKind.signed, IntKind.bits] at h; omega
theorem ins_list : ∀ (n : Nat) (xs : List Value), xs.length = n * 4 → (∀ i, i < n → ∃ op r s imm : Int, xs[i * 4 + 0]? = some (.int .i64 op) ∧ xs[i * 4 + 1]? = some (.int .i64 r) ∧ xs[i * 4 + 2]? = some (.int .i64 s) ∧ xs[i * 4 + 3]? = some (.int .i32 imm) ∧ (Lit.int .i32 imm).wf = true) →
    ∃ L : List InsS, L.length = n ∧ xs = L.flatMap InsS.cells ∧ ∀ x ∈ L, -2147483648 ≤ x.imm ∧ x.imm ≤ 2147483647
  | 0, xs, hl, _ => ⟨[], rfl, List.eq_nil_of_length_eq_zero (by omega), by simp⟩
  | n + 1, xs, hl, h => by
    obtain ⟨a, b, c, d, ys, rfl⟩ : ∃ a b c d ys, xs = a :: b :: c :: d :: ys := by
      match xs, hl with
      | a :: b :: c :: d :: ys, _ => exact ⟨a, b, c, d, ys, rfl⟩
      | [], h => simp at h
      | [_], h => simp at h; omega
      | [_, _], h => simp at h; omega
      | [_, _, _], h => simp at h; omega
    obtain ⟨op, r, s, imm, h0, h1, h2, h3, hw⟩ := h 0 (by omega)
    simp at h0 h1 h2 h3
    subst h0 h1 h2 h3
    obtain ⟨L, hL, hx, hi⟩ := ins_list n ys (by simp at hl; omega) (fun i hi => by
      obtain ⟨op, r, s, imm, g0, g1, g2, g3, hw⟩ := h (i + 1) (by omega)
      refine ⟨op, r, s, imm, ?_, ?_, ?_, ?_, hw⟩
      · rw [show (i + 1) * 4 + 0 = i * 4 + 0 + 4 by omega] at g0; simpa using g0
      · rw [show (i + 1) * 4 + 1 = i * 4 + 1 + 4 by omega] at g1; simpa using g1
      · rw [show (i + 1) * 4 + 2 = i * 4 + 2 + 4 by omega] at g2; simpa using g2
      · rw [show (i + 1) * 4 + 3 = i * 4 + 3 + 4 by omega] at g3; simpa using g3)
    refine ⟨⟨op, r, s, imm⟩ :: L, by simp [hL], by rw [List.flatMap_cons, ← hx]; rfl, ?_⟩
    intro x hx'
    rcases List.mem_cons.1 hx' with rfl | hx'
    · exact wf_i32 hw
    · exact hi x hx'
set_option maxRecDepth 100000 in
theorem bytes_arg (W : World) (v0 v1 : Value) (a0 : Arg Try.prog W 68 v0) (a1 : Arg Try.prog W 22 v1) :
    Calls Try.prog 6 #[v0, v1] W (fun e w' => e = .returned (.bool true) ∧ Below W.heap.size W w') := by
  obtain ⟨zs, hr, hb, hz⟩ := a1.ints (e := 5) (k := .u8) (by kernel_rfl) (by kernel_rfl) (by kernel_rfl)
  have hbb : Try.prog.bytesOf 5 = 1 := by kernel_rfl
  rw [hbb] at hb
  obtain ⟨b, e1, e2⟩ := u8_list fun z hz' => wf_u8 (hz z hz')
  have hbl : b.length ≤ 4611686018427387904 := by unfold reachBytes at hb; omega
  obtain ⟨n, xs, hra, hba, hf⟩ := a0.slice (e := 71) (by kernel_rfl)
  have hc : Try.prog.cellsOf 71 = 4 := by kernel_rfl
  have hby : Try.prog.bytesOf 71 = 32 := by kernel_rfl
  rw [hc] at hra hf
  rw [hby] at hba
  obtain ⟨L, hL, hx, hi⟩ := ins_list n xs hra.1 (fun i hi => by
    obtain ⟨v0, k0, q0, _, f0⟩ := arg_cell (j := 0) (u := 3) hf hi (by kernel_rfl)
    obtain ⟨v1, k1, q1, _, f1⟩ := arg_cell (j := 1) (u := 3) hf hi (by kernel_rfl)
    obtain ⟨v2, k2, q2, _, f2⟩ := arg_cell (j := 2) (u := 3) hf hi (by kernel_rfl)
    obtain ⟨v3, k3, q3, _, f3⟩ := arg_cell (j := 3) (u := 21) hf hi (by kernel_rfl)
    obtain ⟨z0, y0, _⟩ := f0.int (k := .i64) (by kernel_rfl)
    obtain ⟨z1, y1, _⟩ := f1.int (k := .i64) (by kernel_rfl)
    obtain ⟨z2, y2, _⟩ := f2.int (k := .i64) (by kernel_rfl)
    obtain ⟨z3, y3, hw⟩ := f3.int (k := .i32) (by kernel_rfl)
    cases y0; cases y1; cases y2; cases y3
    exact ⟨z0, z1, z2, z3, q0, q1, q2, q3, hw⟩)
  subst hL hx
  refine bytes_walk L hi (by unfold reachBytes at hba; omega) b hbl v0 v1 W hra ?_
  unfold RdB
  rw [e2, ← e1]
  exact hr
end Go.Proofs.Ytjbphdjheklhbaa
