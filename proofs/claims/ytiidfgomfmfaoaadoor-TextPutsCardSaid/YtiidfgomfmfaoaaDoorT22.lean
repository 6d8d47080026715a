/-
  Text: the laws' arguments; the listed tables.
-/
import Derived.Test.YtiidfgomfmfaoaaDoorT21
import Derived.Test.YtiidfgomfmfaoaaDoorRows
import Derived.Lib.LaidTab
import Derived.MakeChecks
import Derived.LaidMore
namespace Go.Proofs.YtiidfgomfmfaoaaDoor
open Go.RowKit Go.ChangeShapes Go.WideShapes Go.ChangeAt

theorem choose_list {α : Type} (d : α) {n : Nat} {Q : Nat → α → Prop} (h : ∀ i, i < n → ∃ a, Q i a) : ∃ L : List α, L.length = n ∧ ∀ i, i < n → Q i (L.getD i d) := by
  classical
  refine ⟨(List.range n).map fun i => if hi : i < n then (h i hi).choose else d, by simp, fun i hi => ?_⟩
  have e : ((List.range n).map fun i => if hi : i < n then (h i hi).choose else d).getD i d = (h i hi).choose := by
    simp [List.getD, hi]
  rw [e]
  exact (h i hi).choose_spec

theorem flat_bytes {W : World} {v : Value} {d : Nat} (h : Flat Tryd.prog W (d + 2) 36 [v]) : ∃ l : List UInt8, BytesR W v l ∧ l.length ≤ 140737488351232 := by
  obtain ⟨v', n, xs, hv, hr, hb, hf⟩ := h.slice Tryd.underlying36
  have h1 : Tryd.prog.cellsOf 5 = 1 := by kernel_rfl
  have h2 : Tryd.prog.bytesOf 5 = 1 := by kernel_rfl
  have hre : reachBytes = 140737488351232 := by decide
  rw [h1] at hr hf
  rw [h2, hre] at hb
  simp at hv
  subst hv
  obtain ⟨a, c, rfl⟩ := hr.shape
  have each : ∀ i, i < n → ∃ u : UInt8, ∃ b o, a = some ⟨b, o, none⟩ ∧ W.cell? ⟨b, o + i, none⟩ = some (.int .u8 (u.toNat : Int)) := by
    intro i hi
    obtain ⟨b, o, hb', hc⟩ := hr.at (by omega)
    obtain ⟨z, h3, h4⟩ := (hf i hi).int Tryd.underlying5
    have h5 := wf_u8 h4
    have g : xs[i]? = some (.int .u8 z) := by
      have := congrArg (·[0]?) h3
      simpa [List.getElem?_take, List.getElem?_drop] using this
    refine ⟨UInt8.ofNat z.toNat, b, o, hb', ?_⟩
    rw [hc _ _ g]
    have : ((UInt8.ofNat z.toNat).toNat : Int) = z := by
      rw [UInt8.toNat_ofNat']
      omega
    rw [this]
  obtain ⟨l, hl, hL⟩ := choose_list (0 : UInt8) each
  subst hl
  refine ⟨l, ⟨a, c, rfl, fun k hk => ?_⟩, by omega⟩
  obtain ⟨b, o, h3, h4⟩ := hL k hk
  refine ⟨b, o, h3, ?_⟩
  rw [h4]
  simp [List.getD, hk]

theorem flat_op {W : World} {cs : List Value} {d : Nat} (h : Flat Tryd.prog W (2 + (d + 2)) 38 cs) : ∃ (o : OpS) (v : Value), cs[0]? = some (.int .i64 o.kind) ∧ cs[1]? = some (.int .i64 o.perm) ∧ cs[2]? = some (.int .i64 o.n) ∧ cs[3]? = some (.int .u64 o.at') ∧ cs[4]? = some v ∧ BytesR W v o.data ∧ o.data.length ≤ 140737488351232 ∧ 0 ≤ o.at' ∧ o.at' < 18446744073709551616 := by
  obtain ⟨v0, k0, e0, _, f0⟩ := (flat_cell 2 _ h (j := 0) (u := 3) (by kernel_rfl))
  obtain ⟨v1, k1, e1, _, f1⟩ := (flat_cell 2 _ h (j := 1) (u := 3) (by kernel_rfl))
  obtain ⟨v2, k2, e2, _, f2⟩ := (flat_cell 2 _ h (j := 2) (u := 3) (by kernel_rfl))
  obtain ⟨v3, k3, e3, _, f3⟩ := (flat_cell 2 _ h (j := 3) (u := 35) (by kernel_rfl))
  obtain ⟨v4, k4, e4, h4, f4⟩ := (flat_cell 2 _ h (j := 4) (u := 36) (by kernel_rfl))
  obtain ⟨z0, g0, _⟩ := f0.int Tryd.underlying3
  obtain ⟨z1, g1, _⟩ := f1.int Tryd.underlying3
  obtain ⟨z2, g2, _⟩ := f2.int Tryd.underlying3
  obtain ⟨z3, g3, w3⟩ := f3.int Tryd.underlying35
  obtain ⟨k5, rfl⟩ : ∃ k5, k4 = k5 + 1 := ⟨k4 - 1, by omega⟩
  obtain ⟨l, hl, hb⟩ := flat_bytes f4
  simp at g0 g1 g2 g3
  subst g0 g1 g2 g3
  refine ⟨⟨z0, z1, z2, z3, l⟩, v4, e0, e1, e2, e3, e4, hl, hb, ?_⟩
  simp [Lit.wf, IntKind.min, IntKind.max, IntKind.signed, IntKind.bits] at w3
  show 0 ≤ z3 ∧ z3 < 18446744073709551616
  omega

theorem script_of {W : World} {v : Value} (h : Arg Tryd.prog W 27 v) : ∃ (F S L A : Int) (ch : Option Addr) (nch cch : Nat) (C : List Bool) (ad : Option Addr) (n c : Nat) (D : List OpS),
    v = scriptV F S L A (.slice ch nch cch) (.slice ad n c) ∧ nch ≤ 4611686018427387904 ∧ C.length = nch ∧ ChR W ch C ∧ n ≤ 4611686018427387904 ∧ OpsR W ad n D ∧ AtOk D ∧ ∀ i, i < n → (D.getD i OpS.none).data.length ≤ 4611686018427387904 := by
  obtain ⟨hf, r, base, hv⟩ := h
  obtain ⟨cs, rfl, hsz⟩ := okWide_struct Tryd.underlying27 hv
  have hfl : Flat Tryd.prog W (3 + 3) 27 cs.toList := hf
  have hfl2 : Flat Tryd.prog W (2 + 4) 27 cs.toList := hf
  have h6 : Tryd.prog.cellsOf 27 = 6 := by kernel_rfl
  rw [h6] at hsz
  obtain ⟨v0, k0, e0, _, f0⟩ := flat_cell 3 3 hfl (j := 0) (u := 3) (by kernel_rfl)
  obtain ⟨v1, k1, e1, _, f1⟩ := flat_cell 3 3 hfl (j := 1) (u := 3) (by kernel_rfl)
  obtain ⟨v2, k2, e2, _, f2⟩ := flat_cell 3 3 hfl (j := 2) (u := 3) (by kernel_rfl)
  obtain ⟨v3, k3, e3, _, f3⟩ := flat_cell 3 3 hfl (j := 3) (u := 3) (by kernel_rfl)
  obtain ⟨v4, k4, e4, h4, f4⟩ := flat_cell 2 4 hfl2 (j := 4) (u := 24) (by kernel_rfl)
  obtain ⟨v5, k5, e5, h5, f5⟩ := flat_cell 2 4 hfl2 (j := 5) (u := 25) (by kernel_rfl)
  obtain ⟨z0, g0, _⟩ := f0.int Tryd.underlying3
  obtain ⟨z1, g1, _⟩ := f1.int Tryd.underlying3
  obtain ⟨z2, g2, _⟩ := f2.int Tryd.underlying3
  obtain ⟨z3, g3, _⟩ := f3.int Tryd.underlying3
  simp at g0 g1 g2 g3
  subst g0 g1 g2 g3
  have hre : reachBytes = 140737488351232 := by decide
  obtain ⟨v4', nch, xs4, hv4, r4, b4, q4⟩ := f4.slice Tryd.underlying24
  obtain ⟨v5', n, xs5, hv5, r5, b5, q5⟩ := f5.slice Tryd.underlying25
  simp at hv4 hv5
  subst hv4 hv5
  have c4 : Tryd.prog.cellsOf 4 = 1 := by kernel_rfl
  have c4' : Tryd.prog.bytesOf 4 = 1 := by kernel_rfl
  have c5 : Tryd.prog.cellsOf 38 = 5 := by kernel_rfl
  have c5' : Tryd.prog.bytesOf 38 = 56 := by kernel_rfl
  rw [c4] at r4 q4
  rw [c4', hre] at b4
  rw [c5] at r5 q5
  rw [c5', hre] at b5
  obtain ⟨ch, cch, rfl⟩ := r4.shape
  obtain ⟨ad, c, rfl⟩ := r5.shape
  obtain ⟨k6, rfl⟩ : ∃ k6, k4 = k6 + 1 := ⟨k4 - 1, by omega⟩
  obtain ⟨k7, rfl⟩ : ∃ k7, k5 = 2 + (k7 + 2) := ⟨k5 - 4, by omega⟩
  have each4 : ∀ i, i < nch → ∃ q : Bool, ∃ b o, ch = some ⟨b, o, none⟩ ∧ W.cell? ⟨b, o + i, none⟩ = some (.bool q) := by
    intro i hi
    obtain ⟨b, o, hb', hc⟩ := r4.at (by omega)
    obtain ⟨z, h3⟩ := (q4 i hi).bool Tryd.underlying4
    have g : xs4[i]? = some (.bool z) := by
      have := congrArg (·[0]?) h3
      simpa [List.getElem?_take, List.getElem?_drop] using this
    exact ⟨z, b, o, hb', hc _ _ g⟩
  obtain ⟨C, hCl, hC⟩ := choose_list false each4
  have each5 : ∀ i, i < n → ∃ p : OpS, (∃ b o v, ad = some ⟨b, o, none⟩ ∧ W.cell? ⟨b, o + i * 5, none⟩ = some (.int .i64 p.kind) ∧ W.cell? ⟨b, o + i * 5 + 1, none⟩ = some (.int .i64 p.perm) ∧ W.cell? ⟨b, o + i * 5 + 2, none⟩ = some (.int .i64 p.n) ∧ W.cell? ⟨b, o + i * 5 + 3, none⟩ = some (.int .u64 p.at') ∧ W.cell? ⟨b, o + i * 5 + 4, none⟩ = some v ∧ BytesR W v p.data) ∧ p.data.length ≤ 140737488351232 ∧ 0 ≤ p.at' ∧ p.at' < 18446744073709551616 := by
    intro i hi
    obtain ⟨b, o, hb', hc⟩ := r5.at (by omega)
    obtain ⟨p, v, g0, g1, g2, g3, g4, hB, hrest⟩ := flat_op (q5 i hi)
    have to : ∀ (j : Nat) u, j < 5 → ((xs5.drop (i * 5)).take 5)[j]? = some u → W.cell? ⟨b, o + i * 5 + j, none⟩ = some u := by
      intro j u hj hu
      rw [Nat.add_assoc]
      refine hc _ _ ?_
      rw [List.getElem?_take, if_pos hj, List.getElem?_drop] at hu
      exact hu
    exact ⟨p, ⟨b, o, v, hb', to 0 _ (by omega) g0, to 1 _ (by omega) g1, to 2 _ (by omega) g2, to 3 _ (by omega) g3, to 4 _ (by omega) g4, hB⟩, hrest⟩
  obtain ⟨D, hDl, hD⟩ := choose_list OpS.none each5
  have hcs : cs = #[.int .i64 z0, .int .i64 z1, .int .i64 z2, .int .i64 z3, .slice ch nch cch, .slice ad n c] := by
    apply Array.ext'
    apply List.ext_getElem?
    intro j
    have hl : cs.toList.length = 6 := by simpa using hsz
    match j with
    | 0 => simpa using e0
    | 1 => simpa using e1
    | 2 => simpa using e2
    | 3 => simpa using e3
    | 4 => simpa using e4
    | 5 => simpa using e5
    | j + 6 => rw [List.getElem?_eq_none (by omega)]; simp
  refine ⟨z0, z1, z2, z3, ch, nch, cch, C, ad, n, c, D, by rw [hcs]; rfl, by omega, hCl, ?_, by omega, ⟨hDl, fun i hi => (hD i hi).1⟩, ?_, fun i hi => by have := (hD i hi).2.1; omega⟩
  · intro i hi
    exact hC i (by omega)
  · intro i
    by_cases hi : i < n
    · exact (hD i hi).2.2
    · have : D.getD i OpS.none = OpS.none := by simp [List.getD, List.getElem?_eq_none (show D.length ≤ i by omega)]
      rw [this]
      exact ⟨by decide, by decide⟩

def laidT : List (String × DataW Unit) := [("math/bits.deBruijn32tab", Rows.laid_math_bits_deBruijn32tab), ("math/bits.deBruijn64tab", Rows.laid_math_bits_deBruijn64tab), ("internal/strconv.uint64pow10", Rows.laid_internal_strconv_uint64pow10)]

theorem door_met (os : Os) (args : Array Value) : laidMetH Tryd.prog laidT ((World.doorLaid Tryd.prog 400 os).forCall (fun _ _ => 0) ⟨#[], args, []⟩).memory :=
  laidMetH_of_parts3 (fuel := 8) (laidMet_of_run' 8 (by kernel_rfl) (by kernel_rfl)) (by kernel_rfl) (by kernel_rfl)

theorem laid_tail {P : Program} {x : String × DataW Unit} {r : List (String × DataW Unit)} {w : World} (h : laidMet P (x :: r) w) : laidMet P r w := by
  obtain ⟨ps, hv, hnd, hrows⟩ := h
  obtain ⟨n, d⟩ := x
  obtain ⟨g, t, cs, fuel, p, q, _, _, _, _, hq, rfl⟩ := hv
  exact ⟨q, hq, List.Nodup.sublist (List.sublist_append_right _ _) hnd, fun b off hm => hrows b off (List.mem_append_right _ hm)⟩

theorem of_laid {W : World} (h : laidMetH Tryd.prog laidT W) : Tab W ∧ Brj W := by
  rw [MakeChecks.laidMetH_plain _ _ _ (by kernel_rfl)] at h
  have h1 := laid_tail h
  have h2 := laid_tail h1
  refine ⟨?_, ?_⟩
  · exact Lib.tabIs_of_head (g := 1) (t := 93) (e := 35) (n := 20) (by kernel_rfl) (by kernel_rfl) Tryd.underlying93 Tryd.underlying35 (by kernel_rfl) (by kernel_rfl) h2
  · exact Lib.tabIs_of_head (g := 3) (t := 99) (e := 5) (n := 64) (by kernel_rfl) (by kernel_rfl) Tryd.underlying99 Tryd.underlying5 (by kernel_rfl) (by kernel_rfl) h1

theorem textPuts_arg (W : World) (hL : laidMetH Tryd.prog laidT W) (v0 : Value) (a0 : Arg Tryd.prog W 27 v0) :
    Calls Tryd.prog 3 #[v0] W fun e w' => e = .returned (.bool true) ∧ Below W.heap.size W w' := by
  obtain ⟨F, S, L, A, ch, nch, cch, C, ad, n, c, D, rfl, h1, h2, h3, h4, h5, h6, h7⟩ := script_of a0
  obtain ⟨hT, hB⟩ := of_laid hL
  exact puts_walk hT hB F S L A ch nch cch h1 C h2 h3 ad n c h4 D h5 h6 h7

theorem textWords_arg (W : World) (hL : laidMetH Tryd.prog laidT W) (v0 v1 : Value) (a0 : Arg Tryd.prog W 3 v0) (a1 : Arg Tryd.prog W 36 v1) :
    Calls Tryd.prog 4 #[v0, v1] W fun e w' => e = .returned (.bool true) ∧ Below W.heap.size W w' := by
  obtain ⟨p, rfl, _⟩ := a0.int Tryd.underlying3
  obtain ⟨hf, r, base, hv⟩ := a1
  obtain ⟨ad, n, c, rfl⟩ := okWide_slice Tryd.underlying36 hv
  have hfl : Flat Tryd.prog W (4 + 2) 36 [.slice ad n c] := hf
  obtain ⟨l, hl, hb⟩ := flat_bytes hfl
  obtain ⟨hT, hB⟩ := of_laid hL
  have hn : l.length = n := by
    obtain ⟨_, _, he, _⟩ := hl
    cases he
    rfl
  exact words_walk hT hB p ad n c l hn (by omega) hl
end Go.Proofs.YtiidfgomfmfaoaaDoor
