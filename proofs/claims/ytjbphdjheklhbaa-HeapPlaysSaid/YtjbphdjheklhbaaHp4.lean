/-
  Package heap: Blocks.
-/
import Derived.Test.YtjbphdjheklhbaaHp3
namespace Go.Proofs.Ytjbphdjheklhbaa
open Go.RowKit

/-- The blocks from a place on, or why they can't be read. -/
def blks (M : List Pg) (base size : Nat) : Nat → Nat → Except Nat (List BlkS)
  | 0, _ => .ok []
  | f + 1, o => if size ≤ o then .ok [] else match rdBlk M base size o with
    | .error E => .error E
    | .ok b => (blks M base size f (o + b.size)).map (b :: ·)
def listOf : Except Nat (List BlkS) → List BlkS
  | .ok l => l
  | .error _ => []
def errOf : Except Nat (List BlkS) → Nat
  | .ok _ => 0
  | .error E => E
def bcells (base : Nat) (b : BlkS) : List Value := [.int .u64 ((base + b.o + 8 : Nat) : Int), .int .i64 b.size, .bool b.used]
theorem bcells_len (base : Nat) (l : List BlkS) : (l.flatMap (bcells base)).length = l.length * 3 := by
  induction l with
  | nil => rfl
  | cons b l ih => simp [bcells, ih]; omega
theorem rdBlk_ok {M : List Pg} {base size o : Nat} {b : BlkS} (h : rdBlk M base size o = .ok b) : 16 ≤ b.size ∧ b.size ≤ size - o ∧ b.size % 16 = 0 ∧ b.o = o := by
  unfold rdBlk at h
  split at h
  · cases h
  · split at h
    · cases h
    · cases h
      dsimp only at *
      refine ⟨by omega, by omega, by omega, rfl⟩
theorem rdBlk_err {M : List Pg} {base size o E : Nat} (h : rdBlk M base size o = .error E) : E ≠ 0 := by
  unfold rdBlk at h
  split at h
  · cases h; assumption
  · split at h
    · cases h; decide
    · cases h
theorem elem_blk : ElemOf Try.prog 49 53 3 24 := ElemOf.mk (z := .agg #[.int .u64 0, .int .i64 0, .bool false]) (by kernel_rfl) (by kernel_rfl) rfl (by decide)

section
variable {e : Env} {w : World} {R : List HP} {m : Nat} {M : List Pg}
set_option maxRecDepth 100000 in
set_option maxHeartbeats 2000000 in
theorem hpBlocks {h base size : Nat} (hb : base + 65544 < 18446744073709551616) (hsz : size ≤ 65536) (H : Holds e w (pts h (hpObj m base size) :: modH m M :: R)) :
    Calls Try.prog 18 #[.pointer (some ⟨h, 0, none⟩)] w
      (RetEx e (fun v : Value => .tuple #[v, .int .i64 (errOf (blks M base size size 0))]) (fun v => row v 53 3 (listOf (blks M base size size 0)).length ((listOf (blks M base size size 0)).flatMap (bcells base)) :: pts h (hpObj m base size) :: modH m M :: R)) := by
  obtain ⟨res, hres⟩ : ∃ res, blks M base size size 0 = res := ⟨_, rfl⟩
  have HK : Hid (∀ w' X, Holds e w' (pts h (hpObj m base size) :: X) → w'.cell? ⟨h, 2, none⟩ = some (.int .i64 size)) := Lib.hid fun w' X h' => h'.cells 2
  have CR : Hid (∀ w' X o, o < size → Holds e w' (pts h (hpObj m base size) :: modH m M :: X) → Calls Try.prog 51 #[.pointer (some ⟨h, 0, none⟩), .int .i64 o] w' (Ret e (rdVal base (rdBlk M base size o)) (pts h (hpObj m base size) :: modH m M :: X))) := Lib.hid fun w' X o ho h' => hpRead hb hsz o ho h'
  have HRES := Lib.hid hres
  rw [hres]
  clear hres
  go_enter Try.func18, Try.ntmps18
  go_wp2_with fail
  go_loopw [4, 5] (fun out i wr => ∃ (pre : List BlkS) (f o : Nat), i = .int .i64 (o : Nat) ∧ o ≤ size ∧ size - o ≤ f ∧ 16 * pre.length ≤ o ∧ Hid (res = (blks M base size f o).map (pre ++ ·)) ∧ Holds e wr (row out 53 3 pre.length (pre.flatMap (bcells base)) :: pts h (hpObj m base size) :: modH m M :: R)) (fun _ i _ => size - (Go.RowKit.intOf i).toNat)
  case atStart =>
    refine ⟨[], size, 0, rfl, by omega, by omega, by simp, Lib.hid ?_, row.nil _ 3 H⟩
    rw [← HRES.out]
    cases blks M base size size 0 <;> rfl
  case round =>
    obtain ⟨pre, f, o, rfl, ho, hf, hpl, hR, HX⟩ := hrel
    have k2 := HK.out _ _ HX.swap
    by_cases hlt : o < size
    · have HX' : Holds e wr (pts h (hpObj m base size) :: modH m M :: row u4 53 3 pre.length (pre.flatMap (bcells base)) :: R) := HX.re 3 [1, 2, 0]
      have CRo := Lib.hid (CR.out wr _ o hlt HX')
      have hdl : decide ((o : Int) < (size : Int)) = true := by simp; omega
      obtain ⟨f', rfl⟩ : ∃ f', f = f' + 1 := ⟨f - 1, by omega⟩
      rcases hrb : rdBlk M base size o with E | b
      · rw [hrb] at CRo
        have hE := rdBlk_err hrb
        have HF : Hid (res = .error E) := Lib.hid (by
          rw [hR.out]
          unfold blks
          rw [if_neg (by omega), hrb]
          rfl)
        have hEb : ((E : Int) != 0) = true := by simp; omega
        unfold rdVal blkZ at CRo
        clear HX HX' hR hrb hE
        go_wp2_with fail
        refine CRo.out.mono ?_
        rintro en w1 ⟨rfl, H2⟩
        have HH : Hid (Holds e (w1.alloc (.cells #[.int .u64 0, .int .i64 0, .bool false] 53)) (row (.slice none 0 0) 53 3 0 [] :: pts h (hpObj m base size) :: modH m M :: R)) := Lib.hid (row.nil 53 3 ((H2.alloc _).re 4 [1, 2]))
        clear H2
        go_wp2_with fail
        go_ret2
        refine ⟨.slice none 0 0, by rw [HF.out]; rfl, ?_⟩
        rw [HF.out]
        exact HH.out
      · rw [hrb] at CRo
        obtain ⟨hb1, hb2, hb3, hb4⟩ := rdBlk_ok hrb
        have HF : Hid (res = (blks M base size f' (o + b.size)).map ((pre ++ [b]) ++ ·)) := Lib.hid (by
          rw [hR.out]
          conv => lhs; unfold blks
          rw [if_neg (by omega), hrb]
          dsimp only
          cases blks M base size f' (o + b.size) <;> simp [Except.map])
        unfold rdVal BlkS.val at CRo
        obtain ⟨bo, bs, bu⟩ := b
        dsimp only at *
        subst hb4
        obtain ⟨t, ht⟩ : ∃ t, base + bo + 8 = t := ⟨_, rfl⟩
        rw [ht] at CRo
        have hsum : (bo : Int) + (bs : Int) = ((bo + bs : Nat) : Int) := by omega
        obtain ⟨nx, hnx⟩ : ∃ nx, bo + bs = nx := ⟨_, rfl⟩
        rw [hnx] at hsum HF
        clear HX HX' hR hrb
        go_wp2_with fail
        refine CRo.out.mono ?_
        rintro en w1 ⟨rfl, H2⟩
        have HA : Holds e ((w1.alloc (.cells #[.int .u64 t, .int .i64 bs, .bool bu] 53)).alloc (.cells #[.int .u64 t, .int .i64 bs, .bool bu] 53)) (row u4 53 3 pre.length (pre.flatMap (bcells base)) :: pts w1.heap.size (.cells #[.int .u64 t, .int .i64 bs, .bool bu] 53) :: pts h (hpObj m base size) :: modH m M :: R) := ((H2.alloc _).alloc _).re 5 [4, 1, 2, 3]
        have HRL := reads_lits (w1.alloc (.cells #[.int .u64 t, .int .i64 bs, .bool bu] 53)) [.int .u64 t, .int .i64 bs, .bool bu] 53 1 3 rfl
        rw [World.size_alloc] at HRL
        clear H2 CRo
        go_wp2_with (at_builtin; refine wpList_append_sl rfl _ _ _ rfl 53 3 24 elem_blk u4 pre.length (pre.flatMap (bcells base)) rfl HA (.slice (some ⟨w1.heap.size + 1, 0, none⟩) 1 1) 1 [.int .u64 t, .int .i64 bs, .bool bu] rfl HRL (by simp [Value.oneCell']) ?_ ?_ ?_)
        · unfold maxLen; omega
        · omega
        intro v' w2 H8
        have c8 := H8.swap.cells
        have e9 : pre.flatMap (bcells base) ++ [.int .u64 t, .int .i64 bs, .bool bu] = (pre ++ [(⟨bo, bs, bu⟩ : BlkS)]).flatMap (bcells base) := by
          rw [List.flatMap_append]
          simp [bcells]
          omega
        rw [e9] at H8
        have HH : Hid (Holds e w2 (row v' 53 3 (pre ++ [(⟨bo, bs, bu⟩ : BlkS)]).length ((pre ++ [(⟨bo, bs, bu⟩ : BlkS)]).flatMap (bcells base)) :: pts h (hpObj m base size) :: modH m M :: R)) := Lib.hid (by
          have h9 := row_len H8 (m := (pre ++ [(⟨bo, bs, bu⟩ : BlkS)]).length) (by simp)
          exact h9.d1)
        clear HA HRL H8 e9
        go_wp2_with fail
        go_roundw
        case rel => exact ⟨_, f', nx, by go_num, by omega, by omega, by simp; omega, HF, HH.out⟩
        case measure => simp [Go.RowKit.intOf]; omega
    · obtain rfl : o = size := by omega
      have HF : Hid (res = .ok pre) := Lib.hid (by
        rw [hR.out]
        cases f with
        | zero => simp [blks, Except.map]
        | succ f => simp [blks, Except.map])
      have HH := Lib.hid HX
      obtain ⟨av, cv, rfl⟩ := row_shape HX
      clear hR HX
      go_wp2_with fail
      go_ret2
      refine ⟨_, by rw [HF.out]; rfl, ?_⟩
      rw [HF.out]
      exact HH.out
end
end Go.Proofs.Ytjbphdjheklhbaa
