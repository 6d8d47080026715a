/-
  Layer 48: the reference's Take.
-/
import Derived.Test.YtjbphdjheklhbaaCb2
namespace Go.Proofs.Ytjbphdjheklhbaa
open Go.RowKit

section
variable {e : Env} {w : World} {R : List HP}
set_option maxRecDepth 100000 in
set_option maxHeartbeats 8000000 in
theorem ref48TakeA (l : List UInt8) (hl : l.length = 8) (hu : unle ((l.drop 4).take 4) < 2147483648) (v : Value) (hr : ∀ w', Holds e w' R → RdB w' v l) (H : Holds e w R) :
    Calls Try.prog 56 #[v] w (Ret e (.tuple #[(insOf l).val, .bool (insOk l)]) R) := by
  obtain ⟨ad, c, rfl⟩ := (hr w H).shape
  have HR : Hid (∀ w', Holds e w' R → Reads w' (.slice ad 8 c) 1 8 (u8v l)) := Lib.hid fun w' h => by
    have h2 := hr w' h
    unfold RdB at h2
    rw [hl] at h2
    exact h2
  have CG : Hid (∀ w' X, (∀ w'', Holds e w'' X → Holds e w'' R) → Holds e w' X → Calls Try.prog 68 #[.slice ad 8 c, .int .i64 4, .int .i64 4] w' (Ret e (.int .u64 (unle ((l.drop 4).take 4))) X)) := Lib.hid fun w' X hX h => by
    have := retQ (ref01Get l 4 4 (by omega) (by omega) (by omega) (by omega) (.slice ad l.length c) (hr w' (hX _ h))) h
    rw [hl] at this
    exact this
  have hub := unle_lt ((l.drop 4).take 4)
  have hl4 : ((l.drop 4).take 4).length = 4 := by rw [List.length_take, List.length_drop, hl]; rfl
  rw [hl4] at hub
  have hub2 : unle ((l.drop 4).take 4) < 4294967296 := Nat.lt_of_lt_of_le hub (by decide)
  have hbd := sgn32_bd _ hub2
  have hins : insOf l = ⟨(l.getD 0 0).toNat, (l.getD 1 0).toNat, (l.getD 2 0).toNat, sgn32 (unle ((l.drop 4).take 4))⟩ := rfl
  have hok : insOk l = (mayI (insOf l) && decide ((l.getD 3 0).toNat = 0)) := by
    unfold insOk
    congr 1
    rw [Bool.eq_iff_iff]
    simp only [decide_eq_true_eq]
    constructor
    · intro h; rw [h]; rfl
    · intro h; exact UInt8.toNat_inj.1 h
  have q0 := (l.getD 0 0).toNat_lt
  have q1 := (l.getD 1 0).toNat_lt
  have q2 := (l.getD 2 0).toNat_lt
  have q3 := (l.getD 3 0).toNat_lt
  obtain ⟨g, o, rfl, _⟩ := (HR.out w H).at (by omega)
  have HB : Hid (∀ w', Holds e w' R → w'.cell? ⟨g, o + 0, none⟩ = some (.int .u8 (l.getD 0 0).toNat) ∧ w'.cell? ⟨g, o + 1, none⟩ = some (.int .u8 (l.getD 1 0).toNat) ∧ w'.cell? ⟨g, o + 2, none⟩ = some (.int .u8 (l.getD 2 0).toNat) ∧ w'.cell? ⟨g, o + 3, none⟩ = some (.int .u8 (l.getD 3 0).toNat)) := Lib.hid fun w' h => by
    obtain ⟨g', o', hg, hc⟩ := (HR.out w' h).at (by omega)
    cases hg
    exact ⟨hc 0 _ (u8v_get (by omega)), hc 1 _ (u8v_get (by omega)), hc 2 _ (u8v_get (by omega)), hc 3 _ (u8v_get (by omega))⟩
  rw [hok, hins, hl]
  generalize (l.getD 0 0).toNat = b0 at *
  generalize (l.getD 1 0).toNat = b1 at *
  generalize (l.getD 2 0).toNat = b2 at *
  generalize (l.getD 3 0).toNat = b3 at *
  generalize unle ((l.drop 4).take 4) = u at *
  obtain ⟨im, him⟩ : ∃ im, sgn32 u = im := ⟨_, rfl⟩
  have him2 : im = if u < 2147483648 then (u : Int) else (u : Int) - 4294967296 := by rw [← him]; rfl
  rw [him] at hbd ⊢
  obtain ⟨hbd1, hbd2⟩ := hbd
  have hv0 : IntKind.i64.wrap (b0 : Int) = b0 := IntWalk.i64_in _ (by omega)
  have hv1 : IntKind.i64.wrap (b1 : Int) = b1 := IntWalk.i64_in _ (by omega)
  have hv2 : IntKind.i64.wrap (b2 : Int) = b2 := IntWalk.i64_in _ (by omega)
  have hw32 : IntKind.i32.wrap im = im := by
    simp [IntKind.wrap, IntKind.bits, IntKind.signed]
    split <;> omega
  have CM := Lib.hid fun w' X (h : Holds e w' X) => ref48May ⟨b0, b1, b2, im⟩ h
  obtain ⟨mI, hmI⟩ : ∃ mI, mayI ⟨b0, b1, b2, im⟩ = mI := ⟨_, rfl⟩
  rw [hmI] at CM ⊢
  have H1 := H.alloc (.cells #[.int .i64 0, .int .i64 0, .int .i64 0, .int .i32 0] 70)
  obtain ⟨rx, hrx⟩ : ∃ rx, w.heap.size = rx := ⟨_, rfl⟩
  rw [hrx] at H1
  have e3 : ((b3 : Int) == 0) = decide (b3 = 0) := by rw [Bool.eq_iff_iff]; simp
  obtain ⟨z3, hz3⟩ : ∃ z3, decide (b3 = 0) = z3 := ⟨_, rfl⟩
  rw [hz3] at e3 ⊢
  have HZ := Lib.hid hz3
  clear hr hl hub hins hok hmI him hz3
  unfold InsS.val at CM ⊢
  dsimp only at CM ⊢
  go_enter Try.func56, Try.ntmps56
  go_wp2_with fail
  refine (CG.out _ _ (fun _ g => g.drop) H1).mono ?_
  rintro en w1 ⟨rfl, H2⟩
  obtain ⟨k0, k1, k2, k3⟩ := HB.out _ H2.drop
  simp only [Nat.add_zero] at k0
  have hgl := World.block_lt_of_cell? _ _ k0
  have hrl := H2.lt
  clear CG H1
  rw [if_pos hu] at him2
  subst him2
  have d1 : decide ((2147483648 : Int) ≤ (u : Int)) = false := decide_eq_false (by omega)
  generalize hui : (u : Int) = im at *
  go_wp2_with fail
  go_region
  have H3 := ((H2.alloc (.cells #[.int .i64 b0, .int .i64 b1, .int .i64 b2, .int .i32 im] 70))).drew
  obtain ⟨xb, hxb⟩ : ∃ xb, w1.heap.size = xb := ⟨_, rfl⟩
  rw [hxb] at H3 ⊢
  clear H2 k0 k1 k2 k3 hgl hrl
  go_wp2_with fail
  cases mI
  · refine code_at H3 fun w3 H4 => ?_
    have HC : Hid (∀ w' : World, Holds e w' (pts xb (.cells #[.int .i64 b0, .int .i64 b1, .int .i64 b2, .int .i32 im] 70 (0, 0)) :: pts rx (.cells #[.int .i64 0, .int .i64 0, .int .i64 0, .int .i32 0] 70 (0, 0)) :: R) →
        (∀ j, w'.cell? ⟨xb, j, none⟩ = #[Value.int .i64 b0, .int .i64 b1, .int .i64 b2, .int .i32 im][j]?) ∧ (∀ j, w'.cell? ⟨rx, j, none⟩ = #[Value.int .i64 0, .int .i64 0, .int .i64 0, .int .i32 0][j]?) ∧ (∀ j, w'.frozen? ⟨rx, j, none⟩ = false) ∧ w'.cell? ⟨g, o + 3, none⟩ = some (.int .u8 b3)) := Lib.hid fun w' h => ⟨h.cells, h.swap.cells, h.swap.frozen, (HB.out _ h.drop.drop).2.2.2⟩
    have HD : Hid (∀ w' : World, Holds e w' (pts xb (.cells #[.int .i64 b0, .int .i64 b1, .int .i64 b2, .int .i32 im] 70 (0, 0)) :: pts rx (.cells #[.int .i64 0, .int .i64 0, .int .i64 0, .int .i32 0] 70 (0, 0)) :: R) →
        Holds e ((((w'.setCell ⟨rx, 0, none⟩ (.int .i64 b0)).setCell ⟨rx, 1, none⟩ (.int .i64 b1)).setCell ⟨rx, 2, none⟩ (.int .i64 b2)).setCell ⟨rx, 3, none⟩ (.int .i32 im)) (pts rx (.cells #[.int .i64 b0, .int .i64 b1, .int .i64 b2, .int .i32 im] 70 (0, 0)) :: pts xb (.cells #[.int .i64 b0, .int .i64 b1, .int .i64 b2, .int .i32 im] 70 (0, 0)) :: R)) := Lib.hid fun w' h => (((h.swap.set 0 (.int .i64 b0)).set 1 (.int .i64 b1)).set 2 (.int .i64 b2)).set 3 (.int .i32 im)
    obtain ⟨c1, c2, c3, c4⟩ := HC.out _ H4
    have hnx := H4.ne
    have hne : ¬ g = rx := by
      rintro rfl
      have h := c2 (o + 3)
      rw [c4] at h
      cases o with
      | zero => simp at h
      | succ o => rw [Array.getElem?_eq_none (by simp)] at h; cases h
    have hd := H4.drew
    obtain ⟨e1, e2, e4, e5⟩ := HC.out _ hd
    have hne' : ¬ rx = g := fun h => hne h.symm
    clear H3
    first | go_region_with (go_at_call 25; refine (CM.out _ _ (by first | exact hd | assumption)).mono ?_; rintro e w4 ⟨rfl, HN⟩; obtain ⟨p1, p2, p3, p4⟩ := HC.out _ HN) | fail
    all_goals
      have H6 := HD.out _ HN
      clear c1 c2 c3 c4 e1 e2 e4 e5 p1 p2 p3 p4 HC HD HN
      go_wp2_with fail
      refine bodyPost_at H6 fun w9 H9 => ?_
      have hc9 := H9.cells
      exact bodyPost_ret (v := .tuple #[.agg #[.int .i64 b0, .int .i64 b1, .int .i64 b2, .int .i32 im], Value.bool false]) (by simp [results, Try.results56, go_sem, hc9]) rfl ⟨by first | (simp; done) | (simp; exact HZ.out.symm), H9.drop.drop⟩
  · refine code_at H3 fun w3 H4 => ?_
    have HC : Hid (∀ w' : World, Holds e w' (pts xb (.cells #[.int .i64 b0, .int .i64 b1, .int .i64 b2, .int .i32 im] 70 (0, 0)) :: pts rx (.cells #[.int .i64 0, .int .i64 0, .int .i64 0, .int .i32 0] 70 (0, 0)) :: R) →
        (∀ j, w'.cell? ⟨xb, j, none⟩ = #[Value.int .i64 b0, .int .i64 b1, .int .i64 b2, .int .i32 im][j]?) ∧ (∀ j, w'.cell? ⟨rx, j, none⟩ = #[Value.int .i64 0, .int .i64 0, .int .i64 0, .int .i32 0][j]?) ∧ (∀ j, w'.frozen? ⟨rx, j, none⟩ = false) ∧ w'.cell? ⟨g, o + 3, none⟩ = some (.int .u8 b3)) := Lib.hid fun w' h => ⟨h.cells, h.swap.cells, h.swap.frozen, (HB.out _ h.drop.drop).2.2.2⟩
    have HD : Hid (∀ w' : World, Holds e w' (pts xb (.cells #[.int .i64 b0, .int .i64 b1, .int .i64 b2, .int .i32 im] 70 (0, 0)) :: pts rx (.cells #[.int .i64 0, .int .i64 0, .int .i64 0, .int .i32 0] 70 (0, 0)) :: R) →
        Holds e ((((w'.setCell ⟨rx, 0, none⟩ (.int .i64 b0)).setCell ⟨rx, 1, none⟩ (.int .i64 b1)).setCell ⟨rx, 2, none⟩ (.int .i64 b2)).setCell ⟨rx, 3, none⟩ (.int .i32 im)) (pts rx (.cells #[.int .i64 b0, .int .i64 b1, .int .i64 b2, .int .i32 im] 70 (0, 0)) :: pts xb (.cells #[.int .i64 b0, .int .i64 b1, .int .i64 b2, .int .i32 im] 70 (0, 0)) :: R)) := Lib.hid fun w' h => (((h.swap.set 0 (.int .i64 b0)).set 1 (.int .i64 b1)).set 2 (.int .i64 b2)).set 3 (.int .i32 im)
    obtain ⟨c1, c2, c3, c4⟩ := HC.out _ H4
    have hnx := H4.ne
    have hne : ¬ g = rx := by
      rintro rfl
      have h := c2 (o + 3)
      rw [c4] at h
      cases o with
      | zero => simp at h
      | succ o => rw [Array.getElem?_eq_none (by simp)] at h; cases h
    have hd := H4.drew
    obtain ⟨e1, e2, e4, e5⟩ := HC.out _ hd
    have hne' : ¬ rx = g := fun h => hne h.symm
    clear H3
    first | go_region_with (go_at_call 25; refine (CM.out _ _ (by first | exact hd | assumption)).mono ?_; rintro e w4 ⟨rfl, HN⟩; obtain ⟨p1, p2, p3, p4⟩ := HC.out _ HN) | fail
    all_goals
      have H6 := HD.out _ HN
      clear c1 c2 c3 c4 e1 e2 e4 e5 p1 p2 p3 p4 HC HD HN
      go_wp2_with fail
      refine bodyPost_at H6 fun w9 H9 => ?_
      have hc9 := H9.cells
      exact bodyPost_ret (v := .tuple #[.agg #[.int .i64 b0, .int .i64 b1, .int .i64 b2, .int .i32 im], Value.bool z3]) (by simp [results, Try.results56, go_sem, hc9]) rfl ⟨by first | (simp; done) | (simp; exact HZ.out.symm), H9.drop.drop⟩
end
end Go.Proofs.Ytjbphdjheklhbaa
