/-
  Layer 47: the reference's Read.
-/
import Derived.Test.YtjbphdjheklhbaaHo1
namespace Go.Proofs.Ytjbphdjheklhbaa
open Go.RowKit

def hdB (bs : List UInt8) (o : Nat) : Nat := unle ((bs.drop o).take 8)
def rdB (bs : List UInt8) (o : Nat) : Except Nat BlkS :=
  if hdB bs o - hdB bs o % 2 < 16 ∨ (hdB bs o - hdB bs o % 2) % 16 ≠ 0 ∨ bs.length - o < hdB bs o - hdB bs o % 2 then .error 3
  else .ok ⟨o, hdB bs o - hdB bs o % 2, decide (hdB bs o % 2 = 1)⟩
def blksB (bs : List UInt8) : Nat → Nat → Except Nat (List BlkS)
  | 0, _ => .ok []
  | f + 1, o => if bs.length ≤ o then .ok [] else match rdB bs o with
    | .error E => .error E
    | .ok b => (blksB bs f (o + b.size)).map (b :: ·)
def isOk : Except Nat (List BlkS) → Bool
  | .ok _ => true
  | .error _ => false
theorem hdB_lt (bs : List UInt8) (o : Nat) : hdB bs o < 18446744073709551616 := by
  have h := unle_lt ((bs.drop o).take 8)
  have h2 : ((bs.drop o).take 8).length ≤ 8 := by rw [List.length_take]; omega
  have h3 : 256 ^ ((bs.drop o).take 8).length ≤ 256 ^ 8 := Nat.pow_le_pow_right (by omega) h2
  exact Nat.lt_of_lt_of_le h h3
theorem unle_step {bs : List UInt8} {p k : Nat} (h : p < bs.length) : unle ((bs.drop p).take (k + 1)) = 256 * unle ((bs.drop (p + 1)).take k) + (bs.getD p 0).toNat := by
  rw [List.drop_eq_getElem_cons h, List.take_succ_cons, unle, Nat.add_comm]
  simp [List.getD, List.getElem?_eq_getElem h]

section
variable {e : Env} {w : World} {R : List HP}
set_option maxRecDepth 100000 in
set_option maxHeartbeats 2000000 in
theorem refRead (bs : List UInt8) (h16 : bs.length % 16 = 0) (hl : bs.length ≤ 65536) (v : Value) (hr : ∀ w', Holds e w' R → RdB w' v bs) (H : Holds e w R) :
    Calls Try.prog 13 #[v] w (RetEx e (fun x : Value => .tuple #[x, .bool (isOk (blksB bs bs.length 0))]) (fun x => row x 60 3 (listOf (blksB bs bs.length 0)).length ((listOf (blksB bs bs.length 0)).flatMap rcells) :: R)) := by
  obtain ⟨ad, c, rfl⟩ := (hr w H).shape
  obtain ⟨len, hlen⟩ : ∃ len, bs.length = len := ⟨_, rfl⟩
  have HR : Hid (∀ w', Holds e w' R → Reads w' (.slice ad len c) 1 len (u8v bs)) := Lib.hid fun w' h => by
    have h2 := hr w' h
    unfold RdB at h2
    rw [hlen] at h2
    exact h2
  obtain ⟨res, hres⟩ : ∃ res, blksB bs len 0 = res := ⟨_, rfl⟩
  have HRES := Lib.hid hres
  rw [hlen] at h16 hl ⊢
  rw [hres]
  have HLEN := Lib.hid hlen
  clear hr hres hlen
  go_enter Try.func13, Try.ntmps13
  go_wp2_with fail
  go_loopw [4, 5] (fun out i wr => ∃ (pre : List BlkS) (f o : Nat), i = .int .i64 (o : Nat) ∧ o ≤ len ∧ len - o ≤ f ∧ o % 16 = 0 ∧ 16 * pre.length ≤ o ∧ Hid (res = (blksB bs f o).map (pre ++ ·)) ∧ Holds e wr (row out 60 3 pre.length (pre.flatMap rcells) :: R)) (fun _ i _ => len - (Go.RowKit.intOf i).toNat)
  case atStart =>
    refine ⟨[], len, 0, rfl, by omega, by omega, rfl, by simp, Lib.hid ?_, row.nil _ 3 H⟩
    rw [← HRES.out]
    cases blksB bs len 0 <;> rfl
  case round =>
    obtain ⟨pre, f, o, rfl, ho, hf, ho16, hpl, hR, HX⟩ := hrel
    obtain ⟨pa, pc, hpa⟩ := row_shape HX
    obtain ⟨np, hnp⟩ : ∃ np, pre.length = np := ⟨_, rfl⟩
    rw [hnp] at hpa hpl HX
    subst hpa
    by_cases hlt : o < len
    · obtain ⟨f', rfl⟩ : ∃ f', f = f' + 1 := ⟨f - 1, by omega⟩
      have ho8 : o + 8 ≤ len := by omega
      go_wp2_with fail
      go_loopw [6, 7] (fun x i wr2 => ∃ (j : Nat) (z : Int), j ≤ 8 ∧ z = (j : Int) - 1 ∧ i = .int .i64 z ∧ x = .int .u64 (unle ((bs.drop (o + j)).take (8 - j))) ∧ Holds e wr2 (row (.slice pa np pc) 60 3 np (pre.flatMap rcells) :: R)) (fun _ i _ => ((Go.RowKit.intOf i) + 1).toNat)
      case atStart => exact ⟨8, 7, by omega, rfl, rfl, by simp [unle], HX⟩
      case round =>
        clear HX
        rename_i wro _ _ _ _ _ _ _ _ _ _ _
        obtain ⟨j, z, hj, hzj, rfl, rfl, HX⟩ := hrel
        have hub := unle_lt ((bs.drop (o + j)).take (8 - j))
        have hlj : ((bs.drop (o + j)).take (8 - j)).length = 8 - j := by rw [List.length_take, List.length_drop, HLEN.out]; omega
        rw [hlj] at hub
        by_cases hj0 : j = 0
        · subst hj0
          obtain rfl : z = -1 := by omega
          have hW : unle ((bs.drop (o + 0)).take (8 - 0)) = hdB bs o := rfl
          have hW64 := hdB_lt bs o
          have hval : rdB bs o = if hdB bs o - hdB bs o % 2 < 16 ∨ (hdB bs o - hdB bs o % 2) % 16 ≠ 0 ∨ len - o < hdB bs o - hdB bs o % 2 then .error 3 else .ok ⟨o, hdB bs o - hdB bs o % 2, decide (hdB bs o % 2 = 1)⟩ := by
            unfold rdB; rw [HLEN.out]
          rw [hW]
          generalize hdB bs o = W at *
          obtain ⟨w2, hw2⟩ : ∃ w2, W % 2 = w2 := ⟨_, rfl⟩
          have i1 : (W : Int) % 2 = (w2 : Int) := by omega
          rw [hw2] at hval
          obtain ⟨s, hs⟩ : ∃ s, W - w2 = s := ⟨_, rfl⟩
          have i2 : (W : Int) - (w2 : Int) = (s : Int) := by omega
          rw [hs] at hval
          have hs64 : s < 18446744073709551616 := by omega
          obtain ⟨zz, hz⟩ : ∃ zz, len - o = zz := ⟨_, rfl⟩
          rw [hz] at hval
          have hz2 : (len : Int) - (o : Int) = (zz : Int) := by omega
          have hzb : zz ≤ 65536 := by omega
          have hw21 : w2 ≤ 1 := by omega
          have ew : ((w2 : Int) == 1) = decide (w2 = 1) := by rw [Bool.eq_iff_iff]; simp; omega
          have HH := Lib.hid (row.nil 60 3 HX.drop)
          clear hub hlj hW hw2 hs hz hzj
          by_cases b1 : s < 16
          · rw [if_pos (.inl b1)] at hval
            have HF : Hid (res = .error 3) := Lib.hid (by rw [hR.out]; unfold blksB; rw [if_neg (by rw [HLEN.out]; omega), hval]; rfl)
            have d1 : decide ((s : Int) < 16) = true := by simp; omega
            clear hval hR HX ew
            go_wp2_with fail
            go_ret2
            exact ⟨.slice none 0 0, by rw [HF.out]; rfl, by rw [HF.out]; exact HH.out⟩
          · have d1 : decide ((s : Int) < 16) = false := by simp; omega
            by_cases b2 : s % 16 = 0
            · have d2 : ((s : Int) % 16 != 0) = false := by simp; omega
              by_cases b3 : zz < s
              · rw [if_pos (.inr (.inr b3))] at hval
                have HF : Hid (res = .error 3) := Lib.hid (by rw [hR.out]; unfold blksB; rw [if_neg (by rw [HLEN.out]; omega), hval]; rfl)
                have d3 : decide ((zz : Int) < (s : Int)) = true := by simp; omega
                clear hval hR HX ew
                go_wp2_with fail
                go_ret2
                exact ⟨.slice none 0 0, by rw [HF.out]; rfl, by rw [HF.out]; exact HH.out⟩
              · rw [if_neg (by omega)] at hval
                have d3 : decide ((zz : Int) < (s : Int)) = false := by simp; omega
                have hs6 : s ≤ 65536 := by omega
                have hz3 : o + s ≤ len := by omega
                obtain ⟨nx, hnx⟩ : ∃ nx, o + s = nx := ⟨_, rfl⟩
                have i4 : (o : Int) + (s : Int) = (nx : Int) := by omega
                obtain ⟨us, hus⟩ : ∃ us, decide (w2 = 1) = us := ⟨_, rfl⟩
                rw [hus] at ew hval
                have HF : Hid (res = (blksB bs f' nx).map ((pre ++ [(⟨o, s, us⟩ : BlkS)]) ++ ·)) := Lib.hid (by
                  rw [hR.out]
                  conv => lhs; unfold blksB
                  rw [if_neg (by rw [HLEN.out]; omega), hval]
                  dsimp only
                  rw [hnx]
                  cases blksB bs f' nx <;> simp [Except.map])
                have HNP := Lib.hid hnp
                have HA : Holds e (wr.alloc (.cells #[.int .i64 o, .int .i64 s, .bool us] 60)) (row (.slice pa np pc) 60 3 np (pre.flatMap rcells) :: R) := (HX.alloc _).drop
                have HRL := reads_lits wr [.int .i64 o, .int .i64 s, .bool us] 60 1 3 rfl
                have hnb : nx ≤ 65536 ∧ nx % 16 = 0 ∧ 16 * (np + 1) ≤ nx ∧ len - nx ≤ f' ∧ nx ≤ len := by omega
                obtain ⟨n1, n2, n3, n4, n5⟩ := hnb
                clear hval hR HX HH hus hnx hnp
                go_wp2_with (at_builtin; refine wpList_append_sl rfl _ _ _ rfl 60 3 24 elem_rb (.slice pa np pc) np (pre.flatMap rcells) rfl HA (.slice (some ⟨wr.heap.size, 0, none⟩) 1 1) 1 [.int .i64 o, .int .i64 s, .bool us] rfl HRL (by simp [Value.oneCell']) ?_ ?_ ?_)
                · unfold maxLen; omega
                · omega
                intro v' w8 H8
                have HQ : Hid (Holds e w8 (row v' 60 3 (pre ++ [(⟨o, s, us⟩ : BlkS)]).length ((pre ++ [(⟨o, s, us⟩ : BlkS)]).flatMap rcells) :: R)) := Lib.hid (by
                  rw [List.length_append, List.length_singleton, HNP.out, List.flatMap_append]
                  exact H8)
                clear HA HRL H8
                go_wp2_with fail
                go_roundw
                case rel => exact ⟨_, f', nx, by go_num, n5, n4, n2, by rw [List.length_append, List.length_singleton, HNP.out]; exact n3, HF, HQ.out⟩
                case measure => simp [Go.RowKit.intOf]; omega
            · rw [if_pos (.inr (.inl b2))] at hval
              have HF : Hid (res = .error 3) := Lib.hid (by rw [hR.out]; unfold blksB; rw [if_neg (by rw [HLEN.out]; omega), hval]; rfl)
              have d2 : ((s : Int) % 16 != 0) = true := by simp; omega
              clear hval hR HX ew
              go_wp2_with fail
              go_ret2
              exact ⟨.slice none 0 0, by rw [HF.out]; rfl, by rw [HF.out]; exact HH.out⟩
        · obtain ⟨j', rfl⟩ : ∃ j', j = j' + 1 := ⟨j - 1, by omega⟩
          obtain rfl : z = (j' : Int) := by omega
          obtain ⟨g, o1, rfl, hrr⟩ := (HR.out _ HX.drop).at (by omega)
          obtain ⟨p, hp⟩ : ∃ p, o + j' = p := ⟨_, rfl⟩
          have c0 : wr.cell? ⟨g, o1 + p, none⟩ = some (.int .u8 ((bs.getD p 0).toNat : Int)) := hrr p _ (u8v_get (by rw [HLEN.out]; omega))
          have i1 : (o : Int) + (j' : Int) = (p : Int) := by omega
          have hst : unle ((bs.drop (o + j')).take (8 - j')) = 256 * unle ((bs.drop (o + (j' + 1))).take (8 - (j' + 1))) + (bs.getD p 0).toNat := by
            rw [hp, show 8 - j' = (8 - (j' + 1)) + 1 by omega, unle_step (by rw [HLEN.out]; omega), show o + (j' + 1) = p + 1 by omega]
          have hx := (bs.getD p 0).toNat_lt
          generalize (bs.getD p 0).toNat = x at *
          generalize unle ((bs.drop (o + (j' + 1))).take (8 - (j' + 1))) = u at *
          have hu56 : u < 72057594037927936 := by
            have h2 : 256 ^ (8 - (j' + 1)) ≤ 256 ^ 7 := Nat.pow_le_pow_right (by omega) (by omega)
            exact Nat.lt_of_lt_of_le hub (Nat.le_trans h2 (by decide))
          obtain ⟨v1, hv1⟩ : ∃ v1, 256 * u = v1 := ⟨_, rfl⟩
          have i2 : (256 : Int) * (u : Int) = (v1 : Int) := by omega
          obtain ⟨v2, hv2⟩ : ∃ v2, v1 + x = v2 := ⟨_, rfl⟩
          have i3 : (v1 : Int) + (x : Int) = (v2 : Int) := by omega
          rw [hv1, hv2] at hst
          have HST := Lib.hid hst
          have bv : v1 < 18446744073709551616 ∧ v2 < 18446744073709551616 := by omega
          obtain ⟨bv1, bv2⟩ := bv
          have bp : p < len := by omega
          have HH := Lib.hid HX
          clear hub hlj hzj hp hrr hst hv1 hv2 HX
          go_wp2_with fail
          go_roundw
          case rel => exact ⟨j', (j' : Int) - 1, by omega, rfl, by go_num, by rw [HST.out], HH.out⟩
          case measure => simp [Go.RowKit.intOf]; try omega
    · obtain rfl : len = o := by omega
      have HF : Hid (res = .ok pre) := Lib.hid (by
        rw [hR.out]
        cases f with
        | zero => simp [blksB, Except.map]
        | succ f => simp [blksB, Except.map, HLEN.out])
      have HH := Lib.hid HX
      have HNP := Lib.hid hnp
      clear hR HX hnp
      go_wp2_with fail
      go_ret2
      refine ⟨_, by rw [HF.out]; rfl, ?_⟩
      rw [HF.out]
      show Holds e _ (row _ _ 3 pre.length _ :: R)
      rw [HNP.out]
      exact HH.out
end
end Go.Proofs.Ytjbphdjheklhbaa
