/-
  Package cpu: Take.
-/
import Derived.Test.YtjbphdjheklhbaaCb2
namespace Go.Proofs.Ytjbphdjheklhbaa
open Go.RowKit

/-- The instructions of bytes, k of them gone through: those that are, and whether all were. -/
def takeF : Nat → List UInt8 → List InsS × Bool
  | 0, _ => ([], true)
  | k + 1, l => if insOk (l.take 8) = true then (insOf (l.take 8) :: (takeF k (l.drop 8)).1, (takeF k (l.drop 8)).2) else ([], false)
def tkN (l : List UInt8) : Nat := l.length / 8
/-- What Take answers: instructions, where, the error. -/
def tkL (l : List UInt8) : List InsS := if (takeF (tkN l) l).2 = true ∧ l.length % 8 = 0 then (takeF (tkN l) l).1 else []
def tkA (l : List UInt8) : Nat := if (takeF (tkN l) l).2 = true then 8 * tkN l else 8 * (takeF (tkN l) l).1.length
def tkE (l : List UInt8) : Nat := if (takeF (tkN l) l).2 = true then (if l.length % 8 = 0 then 0 else 4) else 3

theorem elem_ins : ElemOf Try.prog 68 71 4 32 := ElemOf.mk (z := .agg #[.int .i64 0, .int .i64 0, .int .i64 0, .int .i32 0]) (by kernel_rfl) (by kernel_rfl) rfl (by decide)
section
variable {e : Env} {w : World} {R : List HP}
set_option maxRecDepth 100000 in
set_option maxHeartbeats 2000000 in
theorem cpuTake (l : List UInt8) (hl : l.length ≤ 1000) (v : Value) (hr : ∀ w', Holds e w' R → RdB w' v l) (H : Holds e w R) :
    Calls Try.prog 28 #[v] w (RetEx e (fun v' : Value => .tuple #[v', .int .i64 (tkA l), .int .i64 (tkE l)]) (fun v' => row v' 71 4 (tkL l).length ((tkL l).flatMap InsS.cells) :: R)) := by
  obtain ⟨ad, c, rfl⟩ := (hr w H).shape
  obtain ⟨len, hlen⟩ : ∃ len, l.length = len := ⟨_, rfl⟩
  have HLEN := Lib.hid hlen
  have HR : Hid (∀ w', Holds e w' R → Reads w' (.slice ad len c) 1 len (u8v l)) := Lib.hid fun w' h => by
    have h2 := hr w' h
    unfold RdB at h2
    rw [hlen] at h2
    exact h2
  have hcap : len ≤ c := by
    rcases (HR.out w H).2 with ⟨h, h'⟩ | ⟨a', c', h, h', _⟩
    · omega
    · cases h; exact h'
  obtain ⟨L, hL⟩ : ∃ L, tkL l = L := ⟨_, rfl⟩
  obtain ⟨A, hA⟩ : ∃ A, tkA l = A := ⟨_, rfl⟩
  obtain ⟨EE, hEE⟩ : ∃ EE, tkE l = EE := ⟨_, rfl⟩
  have HL := Lib.hid hL
  have HA := Lib.hid hA
  have HEE := Lib.hid hEE
  rw [hL, hA, hEE]
  rw [hlen] at hl ⊢
  clear hr hL hA hEE hlen
  go_enter Try.func28, Try.ntmps28
  go_wp2_with fail
  go_loopw [5, 6] (fun o i wr => ∃ (k j : Nat) (P : List InsS) (ov : Value), ov = o ∧ i = .int .i64 ((8 * k : Nat) : Int) ∧ k + j = len / 8 ∧ P.length = k ∧ Hid (takeF (len / 8) l = (P ++ (takeF j (l.drop (8 * k))).1, (takeF j (l.drop (8 * k))).2)) ∧ Holds e wr (row ov 71 4 k (P.flatMap InsS.cells) :: R)) (fun _ i _ => len - (Go.RowKit.intOf i).toNat)
  case atStart => exact ⟨0, len / 8, [], _, rfl, rfl, by omega, rfl, Lib.hid (by simp), row.nil _ 4 H⟩
  case round =>
    clear H
    obtain ⟨k, j, P, ov, rfl, rfl, hkj, hP, hF, HX⟩ := hrel
    obtain ⟨at', hat⟩ : ∃ at', 8 * k = at' := ⟨_, rfl⟩
    have HAT := Lib.hid hat
    rw [hat] at hF ⊢
    obtain ⟨d, hd⟩ : ∃ d, len - at' = d := ⟨_, rfl⟩
    have hatl : at' ≤ len := by omega
    have i1 : (len : Int) - (at' : Int) = (d : Int) := by omega
    by_cases hj : j = 0
    · subst hj
      have hd8 : decide ((8 : Int) ≤ (d : Int)) = false := decide_eq_false (by omega)
      have hFF : takeF (len / 8) l = (P, true) := by rw [hF.out]; simp [takeF]
      have hn : tkN l = len / 8 := by unfold tkN; rw [HLEN.out]
      have hAA : A = at' := by rw [← HA.out]; unfold tkA; rw [hn, hFF, if_pos rfl]; omega
      by_cases hm : len % 8 = 0
      · have hLL : L = P := by rw [← HL.out]; unfold tkL; rw [hn, hFF, HLEN.out, if_pos ⟨rfl, hm⟩]
        have hE0 : EE = 0 := by rw [← HEE.out]; unfold tkE; rw [hn, hFF, HLEN.out, if_pos rfl, if_pos hm]
        have hlt : decide ((at' : Int) < (len : Int)) = false := decide_eq_false (by omega)
        have hlt2 : ¬ at' < len := by omega
        subst hLL hE0 hAA
        have HH := Lib.hid HX
        have HPL := Lib.hid hP
        clear HX hF hFF hat hd
        go_wp2_with fail
        go_ret3
        exact ⟨ov, rfl, by rw [HPL.out]; exact HH.out⟩
      · have hLL : L = [] := by rw [← HL.out]; unfold tkL; rw [hn, hFF, HLEN.out, if_neg (fun h => hm h.2)]
        have hE4 : EE = 4 := by rw [← HEE.out]; unfold tkE; rw [hn, hFF, HLEN.out, if_pos rfl, if_neg hm]
        have hlt : decide ((at' : Int) < (len : Int)) = true := decide_eq_true (by omega)
        have hlt2 : at' < len := by omega
        subst hLL hE4 hAA
        have HH := Lib.hid (row.nil 71 4 HX.drop)
        clear HX hF hFF hat hd
        go_wp2_with fail
        go_ret3
        exact ⟨.slice none 0 0, rfl, HH.out⟩
    · obtain ⟨j', rfl⟩ : ∃ j', j = j' + 1 := ⟨j - 1, by omega⟩
      have hd8 : decide ((8 : Int) ≤ (d : Int)) = true := decide_eq_true (by omega)
      obtain ⟨to', hto⟩ : ∃ to', at' + 8 = to' := ⟨_, rfl⟩
      have i2 : (at' : Int) + 8 = (to' : Int) := by omega
      have htl : to' ≤ len := by omega
      obtain ⟨g, o, rfl, _⟩ := (HR.out _ HX.drop).at (by omega)
      have hl8 : ((l.drop at').take 8).length = 8 := by rw [List.length_take, List.length_drop, HLEN.out]; omega
      have CO : Hid (∀ w' X, (∀ w'', Holds e w'' X → Holds e w'' R) → Holds e w' X → Calls Try.prog 55 #[.slice (some ⟨g, o + at', none⟩) 8 (c - at')] w' (Ret e (.tuple #[(insOf ((l.drop at').take 8)).val, .bool (insOk ((l.drop at').take 8))]) X)) := Lib.hid fun w' X hX h' =>
        cpuOne _ hl8 _ (fun w'' h => by
          have h1 := reads_take (k := to') (HR.out w'' (hX _ h)) (by omega)
          have h2 := reads_drop (k := at') h1 (by omega)
          rw [Nat.mul_one, Nat.mul_one, u8v_take, u8v_drop, List.drop_take, show to' - at' = 8 by omega] at h2
          unfold RdB
          rw [hl8]
          exact h2) h'
      have hF2 : takeF (len / 8) l = if insOk ((l.drop at').take 8) = true then (P ++ insOf ((l.drop at').take 8) :: (takeF j' (l.drop (at' + 8))).1, (takeF j' (l.drop (at' + 8))).2) else (P, false) := by
        rw [hF.out]
        conv => lhs; unfold takeF
        rw [List.drop_drop]
        split <;> simp
      have e8 : to' - at' = 8 := by omega
      have ac : at' ≤ c := by omega
      have tc : (to' : Int) ≤ (c : Int) := by omega
      have atI : (at' : Int) ≤ (to' : Int) := by omega
      have hck : ¬ c = at' := by omega
      obtain ⟨x, hx⟩ : ∃ x, insOf ((l.drop at').take 8) = x := ⟨_, rfl⟩
      obtain ⟨io, hio⟩ : ∃ io, insOk ((l.drop at').take 8) = io := ⟨_, rfl⟩
      rw [hx, hio] at CO hF2
      obtain ⟨op, rr, ss, imm⟩ := x
      unfold InsS.val at CO
      dsimp only at CO
      cases io
      · rw [if_neg (by decide)] at hF2
        have hn : tkN l = len / 8 := by unfold tkN; rw [HLEN.out]
        have hAA : A = at' := by rw [← HA.out]; unfold tkA; rw [hn, hF2, if_neg (fun h => by cases h)]; dsimp only; rw [hP]; exact hat
        have hLL : L = [] := by rw [← HL.out]; unfold tkL; rw [hn, hF2, if_neg (fun h => by cases h.1)]
        have hE3 : EE = 3 := by rw [← HEE.out]; unfold tkE; rw [hn, hF2, if_neg (fun h => by cases h)]
        subst hAA hLL hE3
        clear hF hF2 hat hd hx hio hl8 hto
        go_wp2_with fail
        refine (CO.out _ _ (fun _ g => g.drop) HX).mono ?_
        rintro en w2 ⟨rfl, H2⟩
        have HH : Hid (Holds e (w2.alloc (.cells #[.int .i64 op, .int .i64 rr, .int .i64 ss, .int .i32 imm] 71)) (row (.slice none 0 0) 71 4 0 [] :: R)) := Lib.hid (row.nil _ 4 (H2.alloc _).drop.drop)
        clear CO HX H2
        go_wp2_with fail
        go_ret3
        exact ⟨.slice none 0 0, rfl, HH.out⟩
      · rw [if_pos rfl] at hF2
        have HF2 : Hid (takeF (len / 8) l = ((P ++ [⟨op, rr, ss, imm⟩]) ++ (takeF j' (l.drop (8 * (k + 1)))).1, (takeF j' (l.drop (8 * (k + 1)))).2)) := Lib.hid (by
          rw [hF2, show 8 * (k + 1) = at' + 8 by omega]
          simp)
        have hpl : (P ++ [(⟨op, rr, ss, imm⟩ : InsS)]).length = k + 1 := by rw [List.length_append, List.length_singleton, hP]
        have hto2 : 8 * (k + 1) = to' := by omega
        have HTO := Lib.hid hto2
        have hk1000 : k ≤ 1000 := by omega
        clear hF hF2 hat hd hx hio hl8 hto hto2
        go_wp2_with fail
        refine (CO.out _ _ (fun _ g => g.drop) HX).mono ?_
        rintro en w2 ⟨rfl, H2⟩
        have HA2 : Holds e ((w2.alloc (.cells #[.int .i64 op, .int .i64 rr, .int .i64 ss, .int .i32 imm] 71)).alloc (.cells #[.int .i64 op, .int .i64 rr, .int .i64 ss, .int .i32 imm] 71)) (row ov 71 4 k (P.flatMap InsS.cells) :: R) := ((H2.alloc _).drop.alloc _).drop
        have HRL := reads_lits (w2.alloc (.cells #[.int .i64 op, .int .i64 rr, .int .i64 ss, .int .i32 imm] 71)) [.int .i64 op, .int .i64 rr, .int .i64 ss, .int .i32 imm] 71 1 4 rfl
        rw [World.size_alloc] at HRL
        clear CO HX H2
        go_wp2_with (at_builtin; refine wpList_append_sl rfl (.tmp 28) _ _ rfl 71 4 32 elem_ins ov k (P.flatMap InsS.cells) rfl HA2 (.slice (some ⟨w2.heap.size + 1, 0, none⟩) 1 1) 1 [.int .i64 op, .int .i64 rr, .int .i64 ss, .int .i32 imm] rfl HRL (by simp [Value.oneCell']) ?_ ?_ ?_)
        · unfold maxLen; omega
        · omega
        intro v5 w5 H5
        have HQ : Hid (Holds e w5 (row v5 71 4 (k + 1) ((P ++ [(⟨op, rr, ss, imm⟩ : InsS)]).flatMap InsS.cells) :: R)) := Lib.hid (by
          rw [List.flatMap_append]
          exact H5)
        clear HA2 HRL H5
        go_wp2_with fail
        go_roundw
        case rel => exact ⟨k + 1, j', P ++ [⟨op, rr, ss, imm⟩], v5, rfl, by rw [HTO.out], by omega, hpl, HF2, HQ.out⟩
        case measure => simp [Go.RowKit.intOf]; omega
end
end Go.Proofs.Ytjbphdjheklhbaa
