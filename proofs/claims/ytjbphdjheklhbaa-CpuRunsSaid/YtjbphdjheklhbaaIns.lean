/-
  Package cpu: instructions: May, one.
-/
import Derived.Test.YtjbphdjheklhbaaHp
namespace Go.Proofs.Ytjbphdjheklhbaa
open Go.RowKit

structure InsS where
  op : Int
  r : Int
  s : Int
  imm : Int
def InsS.val (x : InsS) : Value := .agg #[.int .i64 x.op, .int .i64 x.r, .int .i64 x.s, .int .i32 x.imm]
def InsS.cells (x : InsS) : List Value := [.int .i64 x.op, .int .i64 x.r, .int .i64 x.s, .int .i32 x.imm]
def mayI (x : InsS) : Bool := decide (0 ≤ x.op) && decide (x.op < 8) && decide (0 ≤ x.r) && decide (x.r < 4) && decide (0 ≤ x.s) && decide (x.s < 4)
/-- A number of 32 bits, with a sign. -/
def sgn32 (n : Nat) : Int := if n < 2147483648 then n else n - 4294967296
/-- The instruction of eight bytes. -/
def insOf (l : List UInt8) : InsS := ⟨(l.getD 0 0).toNat, (l.getD 1 0).toNat, (l.getD 2 0).toNat, sgn32 (unle ((l.drop 4).take 4))⟩
def insOk (l : List UInt8) : Bool := mayI (insOf l) && decide (l.getD 3 0 = 0)

section
variable {e : Env} {w : World} {R : List HP}
set_option maxRecDepth 100000 in
theorem cpuMay (x : InsS) (H : Holds e w R) : Calls Try.prog 24 #[x.val] w (Ret e (.bool (mayI x)) R) := by
  obtain ⟨op, r, s, imm⟩ := x
  have H1 := (H.alloc (.cells #[.int .i64 op, .int .i64 r, .int .i64 s, .int .i32 imm] 71)).drop
  have HH := Lib.hid H1
  clear H H1
  unfold InsS.val
  go_enter Try.func24, Try.ntmps24
  go_wp2_with fail
  all_goals go_ret
  all_goals
    refine ⟨congrArg (fun b => Ending.returned (Value.bool b)) (?_ : _ = mayI ⟨op, r, s, imm⟩), HH.out⟩
    unfold mayI
    dsimp only
    rw [Bool.eq_iff_iff]
    simp only [Bool.and_eq_true, decide_eq_true_eq, Bool.false_eq_true, false_iff]
    try omega
theorem wrap_i32 (n : Nat) (h : n < 4294967296) : IntKind.i32.wrap (n : Int) = sgn32 n := by
  unfold sgn32
  simp [IntKind.wrap, IntKind.bits, IntKind.signed]
  split <;> omega
theorem sgn32_bd (n : Nat) (h : n < 4294967296) : -2147483648 ≤ sgn32 n ∧ sgn32 n ≤ 2147483647 := by unfold sgn32; split <;> omega
set_option maxRecDepth 100000 in
set_option maxHeartbeats 2000000 in
theorem cpuOne (l : List UInt8) (hl : l.length = 8) (v : Value) (hr : ∀ w', Holds e w' R → RdB w' v l) (H : Holds e w R) :
    Calls Try.prog 55 #[v] w (Ret e (.tuple #[(insOf l).val, .bool (insOk l)]) R) := by
  obtain ⟨ad, c, rfl⟩ := (hr w H).shape
  have HR : Hid (∀ w', Holds e w' R → Reads w' (.slice ad 8 c) 1 8 (u8v l)) := Lib.hid fun w' h => by
    have h2 := hr w' h
    unfold RdB at h2
    rw [hl] at h2
    exact h2
  have CG : Hid (∀ w' X, (∀ w'', Holds e w'' X → Holds e w'' R) → Holds e w' X → Calls Try.prog 67 #[.slice ad 8 c, .int .i64 4, .int .i64 4] w' (Ret e (.tuple #[.int .u64 (unle ((l.drop 4).take 4)), .bool true]) X)) := Lib.hid fun w' X hX h => by
    have := numGet_any h 4 (by omega) (by omega) l 4 (by omega) (by omega) (.slice ad l.length c) (fun w'' g => hr w'' (hX _ g))
    rw [hl] at this
    exact this
  have hub := unle_lt ((l.drop 4).take 4)
  have hl4 : ((l.drop 4).take 4).length = 4 := by rw [List.length_take, List.length_drop, hl]; rfl
  rw [hl4] at hub
  have hub2 : unle ((l.drop 4).take 4) < 4294967296 := Nat.lt_of_lt_of_le hub (by decide)
  have hw := wrap_i32 _ hub2
  have hbd := sgn32_bd _ hub2
  have hins : insOf l = ⟨(l.getD 0 0).toNat, (l.getD 1 0).toNat, (l.getD 2 0).toNat, sgn32 (unle ((l.drop 4).take 4))⟩ := rfl
  have hok : insOk l = (mayI (insOf l) && decide ((l.getD 3 0).toNat = 0)) := by
    unfold insOk
    congr 1
    rw [Bool.eq_iff_iff]
    simp only [decide_eq_true_eq]
    constructor
    · intro h; rw [h]; rfl
    · intro h; exact UInt8.toNat_inj.1 h
  have g0 : l[0]? = some (l.getD 0 0) := get_getD (by omega)
  have g1 : l[1]? = some (l.getD 1 0) := get_getD (by omega)
  have g2 : l[2]? = some (l.getD 2 0) := get_getD (by omega)
  have g3 : l[3]? = some (l.getD 3 0) := get_getD (by omega)
  have q0 := (l.getD 0 0).toNat_lt
  have q1 := (l.getD 1 0).toNat_lt
  have q2 := (l.getD 2 0).toNat_lt
  have q3 := (l.getD 3 0).toNat_lt
  obtain ⟨g, o, rfl, _⟩ := (HR.out w H).at (by omega)
  have HB : Hid (∀ w', Holds e w' R → w'.cell? ⟨g, o + 0, none⟩ = some (.int .u8 (l.getD 0 0).toNat) ∧ w'.cell? ⟨g, o + 1, none⟩ = some (.int .u8 (l.getD 1 0).toNat) ∧ w'.cell? ⟨g, o + 2, none⟩ = some (.int .u8 (l.getD 2 0).toNat) ∧ w'.cell? ⟨g, o + 3, none⟩ = some (.int .u8 (l.getD 3 0).toNat)) := Lib.hid fun w' h => by
    obtain ⟨g', o', hg, hc⟩ := (HR.out w' h).at (by omega)
    cases hg
    exact ⟨hc 0 _ (u8v_get (by omega)), hc 1 _ (u8v_get (by omega)), hc 2 _ (u8v_get (by omega)), hc 3 _ (u8v_get (by omega))⟩
  rw [hok, hins, hl]
  generalize (l.getD 0 0).toNat = b0 at *
  generalize (l.getD 1 0).toNat = b1 at *
  generalize (l.getD 2 0).toNat = b2 at *
  generalize (l.getD 3 0).toNat = b3 at *
  generalize unle ((l.drop 4).take 4) = u at *
  have hu32 : IntKind.u32.wrap (u : Int) = u := by rw [IntKind.wrap_u32']; omega
  have hx : (sgn32 u) = (sgn32 u) := rfl
  obtain ⟨im, him⟩ : ∃ im, sgn32 u = im := ⟨_, rfl⟩
  rw [him] at hw hbd ⊢
  obtain ⟨hbd1, hbd2⟩ := hbd
  have CM := Lib.hid fun w' X (h : Holds e w' X) => cpuMay ⟨b0, b1, b2, im⟩ h
  obtain ⟨mI, hmI⟩ : ∃ mI, mayI ⟨b0, b1, b2, im⟩ = mI := ⟨_, rfl⟩
  rw [hmI] at CM ⊢
  have H1 := H.alloc (.cells #[.int .i64 0, .int .i64 0, .int .i64 0, .int .i32 0] 71)
  obtain ⟨rx, hrx⟩ : ∃ rx, w.heap.size = rx := ⟨_, rfl⟩
  rw [hrx] at H1
  clear hr hl hub hub2 hins hok g0 g1 g2 g3 hmI hx him
  unfold InsS.val at CM ⊢
  dsimp only at CM ⊢
  go_enter Try.func55, Try.ntmps55
  go_wp2_with fail
  refine (CG.out _ _ (fun _ g => g.drop) H1).mono ?_
  rintro en w1 ⟨rfl, H2⟩
  obtain ⟨k0, k1, k2, k3⟩ := HB.out _ H2.drop
  simp only [Nat.add_zero] at k0
  have hgl := World.block_lt_of_cell? _ _ k0
  have hrl := H2.lt
  clear CG H1
  go_wp2_with fail
  go_region
  have H3 := ((H2.alloc (.cells #[.int .i64 b0, .int .i64 b1, .int .i64 b2, .int .i32 im] 71))).drew
  obtain ⟨xb, hxb⟩ : ∃ xb, w1.heap.size = xb := ⟨_, rfl⟩
  rw [hxb] at H3 ⊢
  clear H2 k0 k1 k2 k3 hgl hrl
  go_wp2_with fail
  refine code_at H3 fun w3 H4 => ?_
  have HC : Hid (∀ w' : World, Holds e w' (pts xb (.cells #[.int .i64 b0, .int .i64 b1, .int .i64 b2, .int .i32 im] 71) :: pts rx (.cells #[.int .i64 0, .int .i64 0, .int .i64 0, .int .i32 0] 71) :: R) →
      (∀ j, w'.cell? ⟨xb, j, none⟩ = #[Value.int .i64 b0, .int .i64 b1, .int .i64 b2, .int .i32 im][j]?) ∧ (∀ j, w'.cell? ⟨rx, j, none⟩ = #[Value.int .i64 0, .int .i64 0, .int .i64 0, .int .i32 0][j]?) ∧ (∀ j, w'.frozen? ⟨rx, j, none⟩ = false) ∧ w'.cell? ⟨g, o + 3, none⟩ = some (.int .u8 b3)) := Lib.hid fun w' h => ⟨h.cells, h.swap.cells, h.swap.frozen, (HB.out _ h.drop.drop).2.2.2⟩
  obtain ⟨c1, c2, c3, c4⟩ := HC.out _ H4
  have hnx := H4.ne
  have hne : ¬ g = rx := by
    rintro rfl
    have h := c2 (o + 3)
    rw [c4] at h
    cases o with
    | zero => simp at h
    | succ o => rw [Array.getElem?_eq_none (by simp)] at h; cases h
  have hne' : ¬ rx = g := fun h => hne h.symm
  have hd := H4.drew
  obtain ⟨d1, d2, d3, d4⟩ := HC.out _ hd
  clear H3
  have e3 : ((b3 : Int) == 0) = decide (b3 = 0) := by rw [Bool.eq_iff_iff]; simp
  obtain ⟨z3, hz3⟩ : ∃ z3, decide (b3 = 0) = z3 := ⟨_, rfl⟩
  rw [hz3] at e3 ⊢
  have HZ := Lib.hid hz3
  clear hz3
  cases mI
  · first | go_region_with (go_at_call 24; refine (CM.out _ _ (by first | exact hd | assumption)).mono ?_; rintro e w4 ⟨rfl, HN⟩; obtain ⟨p1, p2, p3, p4⟩ := HC.out _ HN) | fail
    all_goals
      clear c1 c2 c3 c4 d1 d2 d3 d4 p1 p2 p3 p4 HC
      have H6 := (((HN.swap.set 0 (.int .i64 b0)).set 1 (.int .i64 b1)).set 2 (.int .i64 b2)).set 3 (.int .i32 im)
      go_wp2_with fail
      refine bodyPost_at H6 fun w9 H9 => ?_
      have hc9 := H9.cells
      exact bodyPost_ret (v := .tuple #[.agg #[.int .i64 b0, .int .i64 b1, .int .i64 b2, .int .i32 im], Value.bool false]) (by simp [results, Try.results55, go_sem, hc9]) rfl ⟨by first | (simp; done) | (simp; exact HZ.out.symm), H9.drop.drop⟩
  · first | go_region_with (go_at_call 24; refine (CM.out _ _ (by first | exact hd | assumption)).mono ?_; rintro e w4 ⟨rfl, HN⟩; obtain ⟨p1, p2, p3, p4⟩ := HC.out _ HN) | fail
    all_goals
      clear c1 c2 c3 c4 d1 d2 d3 d4 p1 p2 p3 p4 HC
      have H6 := (((HN.swap.set 0 (.int .i64 b0)).set 1 (.int .i64 b1)).set 2 (.int .i64 b2)).set 3 (.int .i32 im)
      go_wp2_with fail
      refine bodyPost_at H6 fun w9 H9 => ?_
      have hc9 := H9.cells
      exact bodyPost_ret (v := .tuple #[.agg #[.int .i64 b0, .int .i64 b1, .int .i64 b2, .int .i32 im], Value.bool z3]) (by simp [results, Try.results55, go_sem, hc9]) rfl ⟨by first | (simp; done) | (simp; exact HZ.out.symm), H9.drop.drop⟩
end
end Go.Proofs.Ytjbphdjheklhbaa
