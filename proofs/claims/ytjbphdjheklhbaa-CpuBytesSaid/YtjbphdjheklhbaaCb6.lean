/-
  Layer 48, CpuBytes: what is put is taken. No program in sight.
-/
import Derived.Test.YtjbphdjheklhbaaCb4
namespace Go.Proofs.Ytjbphdjheklhbaa
open Go.RowKit

structure InsIn (x : InsS) : Prop where
  may : mayI x = true
  imm : -2147483648 ≤ x.imm ∧ x.imm ≤ 2147483647
theorem ins_put {x : InsS} (h : InsIn x) : insOf (insB x) = x ∧ insOk (insB x) = true := by
  obtain ⟨op, r, s, imm⟩ := x
  obtain ⟨hm, hi0, hi1⟩ := h
  have hm' := hm
  unfold mayI at hm
  simp only [Bool.and_eq_true, decide_eq_true_eq] at hm
  obtain ⟨⟨⟨⟨⟨m1, m2⟩, m3⟩, m4⟩, m5⟩, m6⟩ := hm
  dsimp only at hi0 hi1
  have e0 : (UInt8.ofNat op.toNat).toNat = op.toNat := by rw [UInt8.toNat_ofNat']; omega
  have e1 : (UInt8.ofNat r.toNat).toNat = r.toNat := by rw [UInt8.toNat_ofNat']; omega
  have e2 : (UInt8.ofNat s.toNat).toNat = s.toNat := by rw [UInt8.toNat_ofNat']; omega
  have e4 : ((insB ⟨op, r, s, imm⟩).drop 4).take 4 = le 4 (imm % 4294967296).toNat := rfl
  have e5 : unle (le 4 (imm % 4294967296).toNat) = (imm % 4294967296).toNat := unle_le 4 _ (by show _ < 4294967296; omega)
  have hof : insOf (insB ⟨op, r, s, imm⟩) = ⟨op, r, s, imm⟩ := by
    unfold insOf
    rw [e4, e5]
    have g0 : (insB ⟨op, r, s, imm⟩).getD 0 0 = UInt8.ofNat op.toNat := rfl
    have g1 : (insB ⟨op, r, s, imm⟩).getD 1 0 = UInt8.ofNat r.toNat := rfl
    have g2 : (insB ⟨op, r, s, imm⟩).getD 2 0 = UInt8.ofNat s.toNat := rfl
    rw [g0, g1, g2, e0, e1, e2]
    have q0 : ((op.toNat : Nat) : Int) = op := by omega
    have q1 : ((r.toNat : Nat) : Int) = r := by omega
    have q2 : ((s.toNat : Nat) : Int) = s := by omega
    have q3 : sgn32 (imm % 4294967296).toNat = imm := by unfold sgn32; split <;> omega
    rw [q0, q1, q2, q3]
  refine ⟨hof, ?_⟩
  unfold insOk
  rw [hof, hm']
  rfl
theorem takeF_put : ∀ (L : List InsS), (∀ x ∈ L, InsIn x) → takeF L.length (L.flatMap insB) = (L, true)
  | [], _ => rfl
  | x :: L, h => by
    have hx := h x (by simp)
    have ih := takeF_put L fun y hy => h y (List.mem_cons_of_mem _ hy)
    obtain ⟨h1, h2⟩ := ins_put hx
    have hl := insB_len x
    rw [List.flatMap_cons, List.length_cons]
    unfold takeF
    have t1 : (insB x ++ L.flatMap insB).take 8 = insB x := by rw [← hl]; exact List.take_left
    have t2 : (insB x ++ L.flatMap insB).drop 8 = L.flatMap insB := by rw [← hl]; exact List.drop_left
    rw [t1, t2, ih, if_pos h2, h1]
theorem take_put {L : List InsS} (h : ∀ x ∈ L, InsIn x) : putB L = L.flatMap insB ∧ putE L = 0 ∧ tkL (L.flatMap insB) = L ∧ tkA (L.flatMap insB) = 8 * L.length ∧ tkE (L.flatMap insB) = 0 := by
  have hall : L.all mayI = true := by rw [List.all_eq_true]; exact fun x hx => (h x hx).may
  have hn : tkN (L.flatMap insB) = L.length := by unfold tkN; rw [insB_lens]; omega
  have hm : (L.flatMap insB).length % 8 = 0 := by rw [insB_lens]; omega
  have hF := takeF_put L h
  refine ⟨by unfold putB; rw [hall]; rfl, by unfold putE; rw [hall]; rfl, ?_, ?_, ?_⟩
  · unfold tkL; rw [hn, hF, if_pos ⟨rfl, hm⟩]
  · unfold tkA; rw [hn, hF, if_pos rfl]
  · unfold tkE; rw [hn, hF, if_pos rfl, if_pos hm]
theorem put_not {L : List InsS} (h : L.all mayI = false) : putB L = [] ∧ putE L = 1 := by
  unfold putB putE
  rw [h]
  exact ⟨rfl, rfl⟩
theorem all_snoc {L : List InsS} {x : InsS} {k : Nat} (h : L[k]? = some x) : (L.take (k + 1)).all mayI = ((L.take k).all mayI && mayI x) := by
  rw [List.take_add_one, h, List.all_append]
  simp
/-- The bytes of those instructions that may be. -/
def wantB (L : List InsS) : List UInt8 := (L.filter mayI).flatMap insB
theorem want_snoc {L : List InsS} {x : InsS} {k : Nat} (h : L[k]? = some x) : wantB (L.take (k + 1)) = wantB (L.take k) ++ if mayI x = true then insB x else [] := by
  unfold wantB
  rw [List.take_add_one, h, List.filter_append, List.flatMap_append]
  congr 1
  cases hm : mayI x <;> simp [hm]
theorem want_len (L : List InsS) : (wantB L).length ≤ L.length * 8 := by
  unfold wantB
  rw [insB_lens]
  exact Nat.mul_le_mul_right _ (List.length_filter_le _ _)
theorem want_all {L : List InsS} (h : L.all mayI = true) : wantB L = L.flatMap insB := by
  unfold wantB
  rw [List.filter_eq_self.2 (by rw [List.all_eq_true] at h; exact h)]
end Go.Proofs.Ytjbphdjheklhbaa
