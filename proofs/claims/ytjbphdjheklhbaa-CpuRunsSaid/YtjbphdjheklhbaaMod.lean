/-
  Package model: pages of a flat memory; may.
-/
import Derived.Test.YtjbphdjheklhbaaVa
import Derived.Test.YtjbphdjheklhbaaMap
import Derived.Test.YtjbphdjheklhbaaRow3
import Derived.BigQuiet
import Derived.Deep.RegionHeld3
namespace Go.Proofs.Ytjbphdjheklhbaa
open Go.RowKit

/-- A page: its number, perm, bytes, and the blocks in which it lies. -/
structure Pg where
  pg : Nat
  perm : Nat
  bs : List UInt8
  pb : Nat
  gb : Nat
def Pg.ptr (x : Pg) : Value := .pointer (some ⟨x.pb, 0, none⟩)
def fnd (M : List Pg) (k : Nat) : Option Pg := M.find? fun x => x.pg == k
def look (M : List Pg) (k : Int) : Option Value := if 0 ≤ k then (fnd M k.toNat).map Pg.ptr else none
structure ModOk (M : List Pg) : Prop where
  rise : M.Pairwise (fun x y => x.pg < y.pg)
  lt : ∀ x ∈ M, x.pg < 68719476736
  perm : ∀ x ∈ M, x.perm ≤ 7
  len : ∀ x ∈ M, x.bs.length = 4096
def pgObj (x : Pg) : Obj := .cells #[.int .i64 x.perm, .slice (some ⟨x.gb, 0, none⟩) 4096 4096] 142 (0, 0)
def bsObj (x : Pg) : Obj := .cells (u8v x.bs).toArray 5 (0, 0)
def pageH (x : Pg) : HP := grp [pts x.pb (pgObj x), pts x.gb (bsObj x)]
def modObj (mb : Nat) : Obj := .cells #[.map (some mb)] 128 (0, 0)
/-- The model in block m: its pages. -/
def modH (m : Nat) (M : List Pg) : HP := exh fun mb : Nat => grp [pur (ModOk M), pts m (modObj mb), mapZ mb 68719476736 (look M), all pageH M]

theorem fnd_at {M : List Pg} {k : Nat} {x : Pg} (h : fnd M k = some x) : ∃ i : Nat, M[i]? = some x ∧ x.pg = k := by
  have h1 := List.mem_of_find?_eq_some h
  have h2 := List.find?_some h
  obtain ⟨i, hi⟩ := List.mem_iff_getElem?.1 h1
  exact ⟨i, hi, by simpa using h2⟩
theorem look_nat (M : List Pg) (k : Nat) : look M (k : Int) = (fnd M k).map Pg.ptr := by
  unfold look; rw [if_pos (by omega), Int.toNat_natCast]

section
variable {e : Env} {w : World} {R : List HP} {m : Nat} {M : List Pg}
theorem mod_open (H : Holds e w (modH m M :: R)) : ∃ mb, ModOk M ∧ Holds e w (pts m (modObj mb) :: mapZ mb 68719476736 (look M) :: all pageH M :: R) := by
  obtain ⟨mb, h⟩ := Holds.exE H
  have h2 := h.ungrp
  exact ⟨mb, h2.purE, h2.drop⟩
theorem mod_close {mb : Nat} (hO : ModOk M) (H : Holds e w (pts m (modObj mb) :: mapZ mb 68719476736 (look M) :: all pageH M :: R)) : Holds e w (modH m M :: R) :=
  Holds.mkExh mb (Holds.mkGrp (L := [pur _, pts _ _, mapZ _ _ _, all _ _]) (Holds.mkPur hO H))
/-- The model without the page at place i. -/
def modX (m mb : Nat) (M : List Pg) (i : Nat) (R : List HP) : List HP := pts m (modObj mb) :: mapZ mb 68719476736 (look M) :: all pageH (M.eraseIdx i) :: R
theorem mod_at {i mb : Nat} {x : Pg} (hi : M[i]? = some x) (H : Holds e w (pts m (modObj mb) :: mapZ mb 68719476736 (look M) :: all pageH M :: R)) : Holds e w (pts x.pb (pgObj x) :: pts x.gb (bsObj x) :: modX m mb M i R) := by
  have h1 := (Holds.focus hi H.p2)
  have h2 := Holds.ungrp (L := [pts _ _, pts _ _]) h1
  exact h2.cons fun _ => Sat.cons fun _ s => Sat.q2 (X := all pageH (M.eraseIdx i)) s
theorem mod_back {i mb : Nat} {x : Pg} (hi : M[i]? = some x) (H : Holds e w (pts x.pb (pgObj x) :: pts x.gb (bsObj x) :: modX m mb M i R)) : Holds e w (pts m (modObj mb) :: mapZ mb 68719476736 (look M) :: all pageH M :: R) := by
  have h1 : Holds e w (grp [pts x.pb (pgObj x), pts x.gb (bsObj x)] :: modX m mb M i R) := Holds.mkGrp (L := [pts _ _, pts _ _]) H
  have h2 := h1.cons fun _ s => Take.there _ (Take.there _ (Take.here _ _)) _ s
  exact (Holds.unfocus' hi h2).q2

/-- Why byte j may not be used so. -/
def chkAt (M : List Pg) (a u j : Nat) : Nat :=
  if 18446744073709551616 ≤ a + j then 8 else if canon (a + j) = false then 8 else
    match fnd M (pgOf (a + j)) with
    | none => 9
    | some x => if x.perm / u % 2 = 0 then 10 else 0
def chkL (M : List Pg) (a u : Nat) (l : List Nat) : Nat := ((l.find? fun j => chkAt M a u j != 0).map (chkAt M a u)).getD 0
def chk (M : List Pg) (a : Nat) (n : Int) (u : Nat) : Nat := if n < 1 ∨ 64 < n then 1 else chkL M a u (List.range n.toNat)
theorem chkL_stop {M : List Pg} {a u n k : Nat} (hk : k < n) (h0 : ∀ j, j < k → chkAt M a u j = 0) (h : chkAt M a u k ≠ 0) : chkL M a u (List.range n) = chkAt M a u k := by
  unfold chkL
  have : (List.range n).find? (fun j => chkAt M a u j != 0) = some k := by
    rw [List.find?_eq_some_iff_getElem]
    refine ⟨by simpa using h, k, by simpa using hk, by simp, fun j hj => ?_⟩
    simp [h0 j hj]
  rw [this]; rfl
theorem chkL_zero {M : List Pg} {a u n : Nat} : chkL M a u (List.range n) = 0 ↔ ∀ j, j < n → chkAt M a u j = 0 := by
  constructor
  · intro h
    induction n with
    | zero => intro j hj; omega
    | succ n ih =>
      by_cases hall : ∀ j, j < n + 1 → chkAt M a u j = 0
      · exact hall
      · exfalso
        have : ∃ k, k < n + 1 ∧ chkAt M a u k ≠ 0 ∧ ∀ j, j < k → chkAt M a u j = 0 := by
          apply Classical.byContradiction
          intro hno
          apply hall
          intro j
          induction j using Nat.strongRecOn with
          | ind j ihj =>
            intro hj
            apply Classical.byContradiction
            intro hne
            exact hno ⟨j, hj, hne, fun i hi => ihj i hi (by omega)⟩
        obtain ⟨k, hk, hne, hz⟩ := this
        rw [chkL_stop hk hz hne] at h
        exact hne h
  · intro h
    unfold chkL
    have : (List.range n).find? (fun j => chkAt M a u j != 0) = none := by
      rw [List.find?_eq_none]
      intro j hj
      simp [h j (List.mem_range.1 hj)]
    rw [this]; rfl

theorem and_use {p u : Nat} (hp : p ≤ 7) (hu : u = 1 ∨ u = 2 ∨ u = 4) : (bits BinOp.and IntKind.i64 (p : Int) (u : Int) == 0) = decide (p / u % 2 = 0) := by
  rcases hu with rfl | rfl | rfl
  all_goals
    match p, hp with
    | 0, _ => rfl
    | 1, _ => rfl
    | 2, _ => rfl
    | 3, _ => rfl
    | 4, _ => rfl
    | 5, _ => rfl
    | 6, _ => rfl
    | 7, _ => rfl
    | n + 8, h => omega

set_option maxRecDepth 100000 in
set_option maxHeartbeats 1000000 in
theorem modMay (H : Holds e w (modH m M :: R)) (a : Nat) (ha : a < 18446744073709551616) (n : Int) (hn0 : -9223372036854775808 ≤ n) (hn1 : n ≤ 9223372036854775807) (u : Nat) (hu : u = 1 ∨ u = 2 ∨ u = 4) :
    Calls Try.prog 83 #[.pointer (some ⟨m, 0, none⟩), .int .u64 a, .int .i64 n, .int .i64 u] w (Ret e (.int .i64 (chk M a n u)) (modH m M :: R)) := by
  by_cases hn : n < 1 ∨ 64 < n
  · have e1 : chk M a n u = 1 := by unfold chk; rw [if_pos hn]
    rw [e1]
    have HH := Lib.hid H
    clear e1
    rcases hn with hn | hn
    · clear H
      go_enter Try.func83, Try.ntmps83
      go_wp2_with fail
      go_ret
      exact ⟨rfl, HH.out⟩
    · have hn' : 1 ≤ n := by omega
      clear H
      go_enter Try.func83, Try.ntmps83
      go_wp2_with fail
      go_ret
      exact ⟨rfl, HH.out⟩
  · obtain ⟨N, rfl⟩ : ∃ N : Nat, n = N := ⟨n.toNat, by omega⟩
    have hN : 1 ≤ N ∧ N ≤ 64 := by omega
    have e1 : chk M a N u = chkL M a u (List.range N) := by unfold chk; rw [if_neg hn, Int.toNat_natCast]
    rw [e1]
    clear e1 hn hn0 hn1
    obtain ⟨hN1, hN2⟩ := hN
    have CC := Lib.hid fun (b : Nat) (hb : b < 18446744073709551616) (w' : World) => vaCanon (w := w') b hb
    have CP := Lib.hid fun (b : Nat) (hb : b < 18446744073709551616) (w' : World) => vaPage (w := w') b hb
    go_enter Try.func83, Try.ntmps83
    go_wp2_with fail
    go_loopw [20] (fun i wr => ∃ k : Nat, k ≤ N ∧ i = .int .i64 (k : Nat) ∧ Hid (∀ j, j < k → chkAt M a u j = 0) ∧ Holds e wr (modH m M :: R)) (fun i _ => N - (Go.RowKit.intOf i).toNat)
    case atStart => exact ⟨0, by omega, rfl, Lib.hid (fun j hj => by omega), H⟩
    case round =>
      obtain ⟨k, hk, rfl, hz, HX⟩ := hrel
      by_cases hlt : k < N
      · by_cases hov : 18446744073709551616 ≤ a + k
        · have hw : decide (IntKind.u64.wrap ((a : Int) + (k : Int)) < (a : Int)) = true := by rw [IntKind.wrap_u64]; simp; omega
          have HC : Hid (chkL M a u (List.range N) = 8) := Lib.hid (by
            have h8 : chkAt M a u k = 8 := by unfold chkAt; rw [if_pos hov]
            rw [chkL_stop hlt hz.out (by rw [h8]; decide), h8])
          clear hov hz
          go_wp2_with fail
          go_ret
          exact ⟨by rw [HC.out]; rfl, HX⟩
        · obtain ⟨b, hb⟩ : ∃ b, a + k = b := ⟨_, rfl⟩
          have hb64 : b < 18446744073709551616 := by omega
          have hab : (a : Int) + (k : Int) = (b : Int) := by omega
          have hw : decide ((b : Int) < (a : Int)) = false := by simp; omega
          have CCb := fun w' => CC.out b hb64 w'
          by_cases hcan : canon b = true
          · have HCA : Hid (chkAt M a u k = match fnd M (pgOf b) with | none => 9 | some x => if x.perm / u % 2 = 0 then 10 else 0) := Lib.hid (by
              unfold chkAt; rw [if_neg hov, hb, if_neg (by rw [hcan]; decide)])
            rw [hcan] at CCb
            obtain ⟨mb, hO, HY⟩ := mod_open HX
            have CPb := Lib.hid fun w' => CP.out b hb64 w'
            have hpl := pgOf_lt b
            obtain ⟨q, hq⟩ : ∃ q, pgOf b = q := ⟨_, rfl⟩
            rw [hq] at HCA CPb hpl
            clear hov hcan hq hb
            have hzv : ∀ w, (zeroValue 139).run Try.prog w = .ok (.pointer none) w := fun w => by kernel_rfl
            -- the page, or none
            rcases hf : fnd M q with _ | x
            · rw [hf] at HCA
              have h9 : chkAt M a u k = 9 := HCA.out
              have HC : Hid (chkL M a u (List.range N) = 9) := Lib.hid (by
                rw [chkL_stop hlt hz.out (by rw [h9]; decide), h9])
              have HL : Hid (∀ w', Holds e w' (pts m (modObj mb) :: mapZ mb 68719476736 (look M) :: all pageH M :: R) → (Instr.lookup 126 (.map (some mb)) (.int .i64 q) true).run Try.prog w' = .ok (.tuple #[.pointer none, .bool false]) w') := Lib.hid fun w' h => by
                have := mapZ_lookup (P := Try.prog) (t := 126) (kt := 3) (et := 139) h.swap (by kernel_rfl) (by kernel_rfl) (hzv w') true (q : Int)
                rw [look_nat, hf] at this
                exact this
              clear hz HCA h9
              go_wp2_with fail
              refine (CCb _).mono ?_
              rintro en w1 ⟨rfl, n1, rfl⟩
              have HY1 := HY.drewN n1
              go_wp2_with fail
              obtain ⟨I, Wf, hI, hW, hWs⟩ := worlds_of HY1
              have r0 : ∀ i, (Wf i).cell? ⟨m, 0, none⟩ = some (.map (some mb)) := fun i => (hW i).cells 0
              have r1 := fun i => HL.out _ (hW i)
              refine wp_region_holds hWs HY1 (by kernel_rfl) (by kernel_rfl) ?_
              (repeat (go_big_quiet_step ((go_at_call 79; exact quietQ (CPb.out _) (hW _) hWs)))); refine wpQuiet_nil ?_; intro _ hw'; obtain ⟨nq, hw''⟩ := hw'; subst hw''
              go_wp2_with fail
              go_ret
              exact ⟨by rw [HC.out]; rfl, mod_close hO (hW nq)⟩
            · rw [hf] at HCA
              obtain ⟨ix, hix, hxq⟩ := fnd_at hf
              have hp7 := hO.perm x (List.mem_of_getElem? hix)
              have hau := and_use hp7 hu
              have HL : Hid (∀ w', Holds e w' (pts m (modObj mb) :: mapZ mb 68719476736 (look M) :: all pageH M :: R) → (Instr.lookup 126 (.map (some mb)) (.int .i64 q) true).run Try.prog w' = .ok (.tuple #[.pointer (some ⟨x.pb, 0, none⟩), .bool true]) w') := Lib.hid fun w' h => by
                have := mapZ_lookup (P := Try.prog) (t := 126) (kt := 3) (et := 139) h.swap (by kernel_rfl) (by kernel_rfl) (hzv w') true (q : Int)
                rw [look_nat, hf] at this
                exact this
              have h10 : chkAt M a u k = if x.perm / u % 2 = 0 then 10 else 0 := HCA.out
              clear HCA
              go_wp2_with fail
              refine (CCb _).mono ?_
              rintro en w1 ⟨rfl, n1, rfl⟩
              have HY1 := HY.drewN n1
              go_wp2_with fail
              obtain ⟨I, Wf, hI, hW, hWs⟩ := worlds_of HY1
              have r0 : ∀ i, (Wf i).cell? ⟨m, 0, none⟩ = some (.map (some mb)) := fun i => (hW i).cells 0
              have r1 := fun i => HL.out _ (hW i)
              refine wp_region_holds hWs HY1 (by kernel_rfl) (by kernel_rfl) ?_
              (repeat (go_big_quiet_step ((go_at_call 79; exact quietQ (CPb.out _) (hW _) hWs)))); refine wpQuiet_nil ?_; intro _ hw'; obtain ⟨nq, hw''⟩ := hw'; subst hw''
              have HP := mod_at hix (hW nq)
              have hp0 : (Wf nq).cell? ⟨x.pb, 0, none⟩ = some (.int .i64 x.perm) := HP.cells 0
              obtain ⟨pe, hpe⟩ : ∃ pe, bits BinOp.and IntKind.i64 (x.perm : Int) (u : Int) = pe := ⟨_, rfl⟩
              rw [hpe] at hau
              have HQ := Lib.hid (mod_close hO (hW nq))
              clear HP hW hWs HY1 HY HX hzv
              by_cases hbit : x.perm / u % 2 = 0
              · rw [decide_eq_true hbit] at hau
                rw [if_pos hbit] at h10
                have HC : Hid (chkL M a u (List.range N) = 10) := Lib.hid (by
                  rw [chkL_stop hlt hz.out (by rw [h10]; decide), h10])
                clear hz h10 hbit
                go_wp2_with fail
                go_ret
                exact ⟨by rw [HC.out]; rfl, HQ.out⟩
              · rw [decide_eq_false hbit] at hau
                rw [if_neg hbit] at h10
                have HZ : Hid (∀ j, j < k + 1 → chkAt M a u j = 0) := Lib.hid fun j hj => by
                  rcases Nat.lt_succ_iff_lt_or_eq.1 hj with hj | rfl
                  · exact hz.out j hj
                  · exact h10
                clear hz h10 hbit
                go_wp2_with fail
                go_roundw
                case rel => exact ⟨k + 1, by omega, by go_num, HZ, HQ.out⟩
                case measure => simp [Go.RowKit.intOf]; omega
          · have HC : Hid (chkL M a u (List.range N) = 8) := Lib.hid (by
              have h8 : chkAt M a u k = 8 := by unfold chkAt; rw [if_neg hov, hb, if_pos (by simpa using hcan)]
              rw [chkL_stop hlt hz.out (by rw [h8]; decide), h8])
            rw [show canon b = false by simpa using hcan] at CCb
            clear hov hz hcan hb
            go_wp2_with fail
            refine (CCb _).mono ?_
            rintro en w1 ⟨rfl, n1, rfl⟩
            have HX1 := HX.drewN n1
            clear HX
            go_wp2_with fail
            go_ret
            exact ⟨by rw [HC.out]; rfl, HX1⟩
      · obtain rfl : k = N := by omega
        have HZ : Hid (chkL M a u (List.range k) = 0) := Lib.hid (chkL_zero.2 hz.out)
        clear hz
        go_wp2_with fail
        go_ret
        exact ⟨by rw [HZ.out]; rfl, HX⟩
end
end Go.Proofs.Ytjbphdjheklhbaa
