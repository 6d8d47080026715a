/-
  Layer 48: code as an argument.
-/
import Derived.Test.YtjbphdjheklhbaaCr8
import Derived.Test.YtjbphdjheklhbaaFlat
namespace Go.Proofs.Ytjbphdjheklhbaa
open Go.RowKit Go.ChangeShapes Go.WideShapes Go.ChangeAt

theorem Flat.nums {P : Program} {W : World} {t e : TypeId} {k : IntKind} {v : Value} {d : Nat} (h : Flat P W (d + 2) t [v]) (ht : P.underlying t = some (.slice e)) (he : P.underlying e = some (.int k)) (hc : P.cellsOf e = 1) :
    ∃ zs : List Int, Reads W v 1 zs.length (zs.map (Value.int k)) ∧ zs.length * P.bytesOf e ≤ reachBytes ∧ ∀ z ∈ zs, (Lit.int k z).wf = true := by
  obtain ⟨v', n, xs, hv, hr, hb, hf⟩ := h.slice ht
  simp at hv
  subst hv
  rw [hc] at hr
  have hl : xs.length = n := by have := hr.len; omega
  have each : ∀ i, i < n → ∃ z, xs[i]? = some (.int k z) ∧ (Lit.int k z).wf = true := by
    intro i hi
    obtain ⟨z, h1, h2⟩ := (hf i hi).int he
    refine ⟨z, ?_, h2⟩
    rw [hc, Nat.mul_one] at h1
    have := congrArg (·[0]?) h1
    simpa [List.getElem?_take, List.getElem?_drop] using this
  have : ∃ zs : List Int, zs.map (Value.int k) = xs ∧ ∀ z ∈ zs, (Lit.int k z).wf = true := by
    clear hr hf hb
    induction xs generalizing n with
    | nil => exact ⟨[], rfl, by simp⟩
    | cons x xs ih =>
      obtain ⟨z, h1, h2⟩ := each 0 (by simp at hl; omega)
      obtain ⟨zs, h3, h4⟩ := ih (n - 1) (by simp at hl; omega) (fun i hi => by simpa using each (i + 1) (by omega))
      simp at h1
      subst h1
      refine ⟨z :: zs, by simp [h3], ?_⟩
      intro z' hz'
      rcases List.mem_cons.1 hz' with rfl | hz'
      · exact h2
      · exact h4 _ hz'
  obtain ⟨zs, rfl, hz⟩ := this
  have hn : n = zs.length := by simpa using hl.symm
  subst hn
  exact ⟨zs, hr, hb, hz⟩
theorem wf9_u64 {z : Int} (h : (Lit.int .u64 z).wf = true) : 0 ≤ z ∧ z ≤ 18446744073709551615 := by
  simp [Lit.wf, IntKind.min, IntKind.max, IntKind.signed, IntKind.bits] at h; omega
theorem wf9_i64 {z : Int} (h : (Lit.int .i64 z).wf = true) : -9223372036854775808 ≤ z ∧ z ≤ 9223372036854775807 := by
  simp [Lit.wf, IntKind.min, IntKind.max, IntKind.signed, IntKind.bits] at h; omega
theorem wf9_u8 {z : Int} (h : (Lit.int .u8 z).wf = true) : 0 ≤ z ∧ z ≤ 255 := by
  simp [Lit.wf, IntKind.min, IntKind.max, IntKind.signed, IntKind.bits] at h; omega
theorem u8_of {zs : List Int} (h : ∀ z ∈ zs, 0 ≤ z ∧ z ≤ 255) : ∃ b : List UInt8, zs.map (Value.int .u8) = u8v b ∧ b.length = zs.length := by
  refine ⟨zs.map fun z => UInt8.ofNat z.toNat, ?_, by simp⟩
  unfold u8v
  rw [List.map_map]
  apply List.map_congr_left
  intro z hz
  have := h z hz
  simp only [Function.comp, UInt8.toNat_ofNat']
  congr 1
  omega
theorem u64_of {zs : List Int} (h : ∀ z ∈ zs, 0 ≤ z ∧ z ≤ 18446744073709551615) : ∃ b : List Nat, zs.map (Value.int .u64) = u64v b ∧ b.length = zs.length ∧ ∀ x ∈ b, x < 18446744073709551616 := by
  refine ⟨zs.map Int.toNat, ?_, by simp, ?_⟩
  · unfold u64v
    rw [List.map_map]
    apply List.map_congr_left
    intro z hz
    have := h z hz
    simp only [Function.comp]
    congr 1
    omega
  · intro x hx
    obtain ⟨z, hz, rfl⟩ := List.mem_map.1 hx
    have := h z hz
    omega

set_option maxRecDepth 100000 in
theorem code_of {W : World} {v : Value} (h : Arg Try.prog W 83 v) : ∃ (bs pc : Nat) (B : List UInt8) (P : List Int) (ns : List Nat) (v1 v2 v3 : Value),
    v = .agg #[.int .u64 bs, .int .u64 pc, v1, v2, v3] ∧ bs < 18446744073709551616 ∧ pc < 18446744073709551616 ∧ (∀ x ∈ ns, x < 18446744073709551616) ∧ B.length ≤ 4611686018427387904 ∧ P.length ≤ 4611686018427387904 ∧ ns.length ≤ 4611686018427387904 ∧
    RdB W v1 B ∧ Reads W v2 1 P.length (ints P) ∧ Reads W v3 1 ns.length (u64v ns) ∧ ∀ z ∈ P, -9223372036854775808 ≤ z ∧ z ≤ 9223372036854775807 := by
  obtain ⟨hf, r, base, hv⟩ := h
  obtain ⟨cs, rfl, hsz⟩ := okWide_struct Try.underlying83 hv
  have hfl : Flat Try.prog W (3 + 3) 83 cs.toList := hf
  obtain ⟨v0, k0, e0, _, f0⟩ := flat_cell 3 3 hfl (j := 0) (u := 28) (by kernel_rfl)
  obtain ⟨v1, k1, e1, _, f1⟩ := flat_cell 3 3 hfl (j := 1) (u := 28) (by kernel_rfl)
  obtain ⟨v2, k2, e2, h2, f2⟩ := flat_cell 3 3 hfl (j := 2) (u := 22) (by kernel_rfl)
  obtain ⟨v3, k3, e3, h3, f3⟩ := flat_cell 3 3 hfl (j := 3) (u := 61) (by kernel_rfl)
  obtain ⟨v4, k4, e4, h4, f4⟩ := flat_cell 3 3 hfl (j := 4) (u := 45) (by kernel_rfl)
  obtain ⟨z0, g0, w0⟩ := f0.int (k := .u64) (by kernel_rfl)
  obtain ⟨z1, g1, w1⟩ := f1.int (k := .u64) (by kernel_rfl)
  obtain ⟨k2, rfl⟩ : ∃ k, k2 = k + 1 := ⟨k2 - 1, by omega⟩
  obtain ⟨k3, rfl⟩ : ∃ k, k3 = k + 1 := ⟨k3 - 1, by omega⟩
  obtain ⟨k4, rfl⟩ : ∃ k, k4 = k + 1 := ⟨k4 - 1, by omega⟩
  obtain ⟨zb, rb, bb, wb⟩ := f2.nums (e := 5) (k := .u8) (by kernel_rfl) (by kernel_rfl) (by kernel_rfl)
  obtain ⟨zp, rp, bp, wp⟩ := f3.nums (e := 3) (k := .i64) (by kernel_rfl) (by kernel_rfl) (by kernel_rfl)
  obtain ⟨zn, rn, bn, wn⟩ := f4.nums (e := 28) (k := .u64) (by kernel_rfl) (by kernel_rfl) (by kernel_rfl)
  have x1 : Try.prog.bytesOf 5 = 1 := by kernel_rfl
  have x2 : Try.prog.bytesOf 3 = 8 := by kernel_rfl
  have x3 : Try.prog.bytesOf 28 = 8 := by kernel_rfl
  rw [x1] at bb; rw [x2] at bp; rw [x3] at bn
  have hre : reachBytes = 140737488351232 := by decide
  rw [hre] at bb bp bn
  obtain ⟨B, eB, lB⟩ := u8_of fun z hz => wf9_u8 (wb z hz)
  obtain ⟨ns, en, ln, hn⟩ := u64_of fun z hz => wf9_u64 (wn z hz)
  have w0 := wf9_u64 w0
  have w1 := wf9_u64 w1
  simp at g0 g1
  subst g0 g1
  obtain ⟨z0, rfl⟩ : ∃ n : Nat, z0 = n := ⟨z0.toNat, by omega⟩
  obtain ⟨z1, rfl⟩ : ∃ n : Nat, z1 = n := ⟨z1.toNat, by omega⟩
  have hc5 : Try.prog.cellsOf 83 = 5 := by kernel_rfl
  refine ⟨z0, z1, B, zp, ns, v2, v3, v4, ?_, by omega, by omega, hn, by omega, by omega, by omega, ?_, rp, ?_, fun z hz => wf9_i64 (wp z hz)⟩
  · congr 1
    apply Array.toList_inj.1
    apply List.ext_getElem?
    intro i
    have hl : cs.toList.length = 5 := by rw [Array.length_toList, hsz, hc5]
    match i with
    | 0 => exact e0
    | 1 => exact e1
    | 2 => exact e2
    | 3 => exact e3
    | 4 => exact e4
    | i + 5 => rw [List.getElem?_eq_none (by omega), List.getElem?_eq_none (by simp)]
  · unfold RdB; rw [lB, ← eB]; exact rb
  · rw [ln, ← en]; exact rn

set_option maxRecDepth 100000 in
theorem runs_arg (W : World) (v0 v1 : Value) (a0 : Arg Try.prog W 83 v0) (a1 : Arg Try.prog W 3 v1) :
    Calls Try.prog 7 #[v0, v1] W (fun e w' => e = .returned (.bool true) ∧ Below W.heap.size W w') := by
  obtain ⟨bs, pc, B, P, ns, v1', v2, v3, rfl, _, hpc, hns, l1, l2, l3, r1, r2, r3, _⟩ := code_of a0
  obtain ⟨most, rfl, hw⟩ := a1.int (k := .i64) (by kernel_rfl)
  have hw := wf9_i64 hw
  exact runs_walk bs pc hpc B P ns hns v1' v2 v3 most hw.1 hw.2 l1 l2 l3 W r1 r2 r3
end Go.Proofs.Ytjbphdjheklhbaa
