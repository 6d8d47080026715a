/-
  Layer 47: a model with pages from 0 on; the chapter's example.
-/
import Derived.Test.YtjbphdjheklhbaaHp9
namespace Go.Proofs.Ytjbphdjheklhbaa
open Go.RowKit

theorem Fl.zero : Fl 0 [] := ⟨⟨List.Pairwise.nil, fun _ h => (by cases h), fun _ h => (by cases h), fun _ h => (by cases h)⟩, rfl, fun i x h => by simp at h, by omega⟩
theorem Fl.grow {i : Nat} {M : List Pg} (F : Fl i M) (hi : i < 1000) (p : Nat × Nat) : mapE M (4096 * i) 3 = 0 ∧ Fl (i + 1) (mapP M (4096 * i) 3 p) := by
  have hpg : pgOf (4096 * i) = i := by rw [pg_small (by omega)]; omega
  have hno : Go.Proofs.Ytjbphdjheklhbaa.fnd M i = none := by rw [F.fnd, List.getElem?_eq_none (by rw [F.len]; exact Nat.le_refl _)]
  have e1 : mapE M (4096 * i) 3 = 0 := by
    have h1 : atE (4096 * i) = 0 := by
      unfold atE
      rw [if_neg (by rw [canon_small (by omega)]; decide), if_neg (by unfold offOf; omega)]
    unfold mapE
    rw [h1, if_neg (by decide), if_neg (by decide), hpg, hno]
    rfl
  refine ⟨e1, ?_⟩
  rw [mapP_yes e1]
  have hlt : ∀ y ∈ M, y.pg < i := fun y hy => by
    obtain ⟨j, hj⟩ := List.mem_iff_getElem?.1 hy
    have h1 := (F.at' j y hj).1
    have h2 := (List.getElem?_eq_some_iff.1 hj).1
    rw [F.len] at h2
    omega
  have e2 : insPg M (newPg (4096 * i) 3 p.1 p.2) = M ++ [newPg (4096 * i) 3 p.1 p.2] := by
    have hn : (newPg (4096 * i) 3 p.1 p.2).pg = i := hpg
    unfold insPg
    rw [hn]
    have f1 : M.filter (fun y => decide (y.pg < i)) = M := List.filter_eq_self.2 fun y hy => by simpa using hlt y hy
    have f2 : M.filter (fun y => decide (i < y.pg)) = [] := List.filter_eq_nil_iff.2 fun y hy => by have := hlt y hy; simp; omega
    rw [f1, f2]
  refine ⟨F.ok.ins (by show pgOf _ < _; rw [hpg]; omega) (by show (3 : Int).toNat ≤ 7; decide) (List.length_replicate ..), by rw [e2, List.length_append, F.len]; rfl, ?_, by omega⟩
  intro j x hx
  rw [e2, List.getElem?_append] at hx
  split at hx
  · exact F.at' j x hx
  · next hj =>
    have hj2 : j = i := by
      have := (List.getElem?_eq_some_iff.1 hx).1
      rw [F.len] at hj this
      simp at this
      omega
    subst hj2
    rw [F.len] at hx
    simp at hx
    subst hx
    exact ⟨hpg, rfl⟩

section
variable {e : Env} {w : World} {R : List HP}
set_option maxRecDepth 100000 in
set_option maxHeartbeats 1000000 in
theorem apMapped (n : Nat) (hn : n ≤ 10) (H : Holds e w R) :
    Calls Try.prog 9 #[.int .i64 n] w (RetEx e (fun x : Nat × List Pg => .pointer (some ⟨x.1, 0, none⟩)) (fun x => pur (Fl n x.2) :: modH x.1 x.2 :: R)) := by
  have CN := Lib.hid (modNew H)
  have CD : Hid (∀ w' blk m M (i : Nat), Fl i M → i < 10 → Holds e w' (modH m M :: pts blk (.cells (OpS.cells ⟨0, 3, 0, 4096 * i, .slice none 0 0, []⟩).toArray 30 (0, 0)) :: R) → Calls Try.prog 10 #[.pointer (some ⟨m, 0, none⟩), .slice (some ⟨blk, 0, none⟩) 1 1] w'
      (RetEx e (fun x : Value × List Pg => x.1) (fun x => pur (Fl (i + 1) x.2) :: modH m x.2 :: R))) := Lib.hid fun w' blk m M i F hi h => by
    refine (modDo1 ⟨0, 3, 0, 4096 * i, .slice none 0 0, []⟩ (.slice (some ⟨blk, 0, none⟩) 1 1) (fun w'' g => reads_op 1 5 rfl g) (.inl rfl) ⟨by show 4096 * i < _; omega, fun w'' _ => reads_none _ _, by simp⟩ h).mono ?_
    rintro en w'' ⟨⟨v, p⟩, rfl, h2⟩
    obtain ⟨e1, F'⟩ := F.grow (by omega) p
    exact ⟨(v, _), rfl, Holds.mkPur F' (h2.re 3 [1])⟩
  clear H
  go_enter Try.func9, Try.ntmps9
  go_wp2_with fail
  refine CN.out.mono ?_
  rintro en w1 ⟨m, rfl, H1⟩
  clear CN
  go_wp2_with fail
  go_loopw [4] (fun i wr => ∃ (k : Nat) (M : List Pg), k ≤ n ∧ i = .int .i64 (k : Nat) ∧ Hid (Fl k M) ∧ Holds e wr (modH m M :: R)) (fun i _ => n - (Go.RowKit.intOf i).toNat)
  case atStart => exact ⟨0, [], by omega, rfl, Lib.hid Fl.zero, H1⟩
  case round =>
    obtain ⟨k, M, hk, rfl, HF, HX⟩ := hrel
    by_cases hlt : k < n
    · have hdl : decide ((k : Int) < (n : Int)) = true := by simp; omega
      have e1 : (4096 : Int) * (k : Int) = ((4096 * k : Nat) : Int) := by omega
      obtain ⟨a, ha⟩ : ∃ a, 4096 * k = a := ⟨_, rfl⟩
      have hab : a ≤ 50000 := by omega
      have CDk := Lib.hid (fun w' blk h => CD.out w' blk m M k HF.out (by omega) h)
      rw [ha] at e1 CDk
      have HA := (HX.alloc (.cells (OpS.cells ⟨0, 3, 0, a, .slice none 0 0, []⟩).toArray 30)).swap
      unfold OpS.cells at CDk HA
      clear ha HX
      go_wp2_with fail
      refine (CDk.out _ _ HA).mono ?_
      rintro en w2 ⟨⟨v, M'⟩, rfl, H2⟩
      have F' := Lib.hid H2.purE
      have H3 := Lib.hid H2.drop
      clear H2 HA CDk
      dsimp only at *
      go_wp2_with fail
      go_roundw
      case rel => exact ⟨k + 1, M', by omega, by go_num, F', H3.out⟩
      case measure => simp [Go.RowKit.intOf]; omega
    · obtain rfl : k = n := by omega
      go_wp2_with fail
      go_ret
      exact ⟨(m, M), rfl, Holds.mkPur HF.out HX⟩

set_option maxRecDepth 100000 in
set_option maxHeartbeats 1000000 in
theorem lives47 (H : Holds e w R) : Calls Try.prog 8 #[] w (Ret e (.bool true) R) := by
  have CM := Lib.hid (apMapped 1 (by omega) H)
  have CN : Hid (∀ w' m M, Fl 1 M → Holds e w' (modH m M :: R) → Calls Try.prog 15 #[memV m, .int .u64 0, .int .i64 64] w'
      (RetEx e (fun h : Nat => .tuple #[.pointer (some ⟨h, 0, none⟩), .int .i64 0]) (fun h => heapA h m 0 64 1 [⟨0, 64, false⟩] :: R))) := Lib.hid fun w' m M F h => hNew (n := 1) (base := 0) (size := 64) F (by omega) (by decide) h
  have CA1 : Hid (∀ w' h m, Holds e w' (heapA h m 0 64 1 [⟨0, 64, false⟩] :: R) → Calls Try.prog 17 #[.pointer (some ⟨h, 0, none⟩), .int .i64 1] w' (Ret e (.tuple #[.int .u64 8, .int .i64 0]) (heapA h m 0 64 1 [⟨0, 16, true⟩, ⟨16, 48, false⟩] :: R))) := Lib.hid fun w' h m h' => hAlloc 1 (by omega) (by omega) h'
  have CA2 : Hid (∀ w' h m, Holds e w' (heapA h m 0 64 1 [⟨0, 16, true⟩, ⟨16, 48, false⟩] :: R) → Calls Try.prog 17 #[.pointer (some ⟨h, 0, none⟩), .int .i64 17] w' (Ret e (.tuple #[.int .u64 24, .int .i64 0]) (heapA h m 0 64 1 [⟨0, 16, true⟩, ⟨16, 32, true⟩, ⟨48, 16, false⟩] :: R))) := Lib.hid fun w' h m h' => hAlloc 17 (by omega) (by omega) h'
  have CL : Hid (∀ w' h m, Holds e w' (heapA h m 0 64 1 [⟨0, 16, true⟩, ⟨16, 32, true⟩, ⟨48, 16, false⟩] :: R) → Calls Try.prog 19 #[.pointer (some ⟨h, 0, none⟩)] w' (Ret e (.tuple #[.int .i64 8, .int .i64 0]) (heapA h m 0 64 1 [⟨0, 16, true⟩, ⟨16, 32, true⟩, ⟨48, 16, false⟩] :: R))) := Lib.hid fun w' h m h' => hLeft h'
  have CFl := Lib.hid fun w' m => hpFlat (w := w') (m := m)
  clear H
  go_enter Try.func8, Try.ntmps8
  go_wp2_with fail
  refine CM.out.mono ?_
  rintro en w1 ⟨⟨m, M⟩, rfl, H1⟩
  have F := Lib.hid H1.purE
  have H2 := H1.drop
  clear H1 CM
  dsimp only at *
  go_wp2_with fail
  refine (CFl.out _ _).mono ?_
  rintro en w2 ⟨rfl, n2, rfl⟩
  go_wp2_with fail
  refine (CN.out _ _ _ F.out (H2.drewN n2)).mono ?_
  rintro en w3 ⟨h, rfl, H3⟩
  clear H2 CN
  go_wp2_with fail
  refine (CA1.out _ _ _ H3).mono ?_
  rintro en w4 ⟨rfl, H4⟩
  clear H3 CA1
  go_wp2_with fail
  refine (CA2.out _ _ _ H4).mono ?_
  rintro en w5 ⟨rfl, H5⟩
  clear H4 CA2
  go_wp2_with fail
  refine (CL.out _ _ _ H5).mono ?_
  rintro en w6 ⟨rfl, H6⟩
  have HR := Lib.hid H6.drop
  clear H5 H6 CL
  go_wp2_with fail
  go_ret
  exact ⟨rfl, HR.out⟩
end
end Go.Proofs.Ytjbphdjheklhbaa
