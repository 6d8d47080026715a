/-
  Text: Put.
-/
import Derived.Test.YtiidfgomfmfaoaaDoorT15
namespace Go.Proofs.YtiidfgomfmfaoaaDoor
open Go.RowKit

def confL (F S L A : Int) : List UInt8 := lineL [[99, 111, 110, 102], Lib.itoa F, Lib.itoa S, Lib.itoa L, Lib.itoa A]
def failsL (C : List Bool) : List UInt8 := if 0 < C.length then lineL [[102, 97, 105, 108, 115], chL C] else []
/-- The lines of a script that may be. -/
def putL (F S L A : Int) (C : List Bool) (D : List OpS) : List UInt8 := confL F S L A ++ failsL C ++ opsL D

theorem confB_bd {F S L A : Int} (h : confB F S L A = true) : (0 ≤ F ∧ F ≤ 255) ∧ (0 ≤ S ∧ S ≤ 255) ∧ (0 ≤ L ∧ L ≤ 255) ∧ (0 ≤ A ∧ A ≤ 255) := by
  unfold confB at h
  simp at h
  omega
theorem confL_len {F S L A : Int} (h : confB F S L A = true) : (confL F S L A).length ≤ 60000 := by
  obtain ⟨h1, h2, h3, h4⟩ := confB_bd h
  have i1 := itoa_len h1.1 h1.2
  have i2 := itoa_len h2.1 h2.2
  have i3 := itoa_len h3.1 h3.2
  have i4 := itoa_len h4.1 h4.2
  have := lineL_len [[99, 111, 110, 102], Lib.itoa F, Lib.itoa S, Lib.itoa L, Lib.itoa A] (by
    intro x hx
    simp at hx
    rcases hx with rfl | rfl | rfl | rfl | rfl
    · simp
    · omega
    · omega
    · omega
    · omega)
  unfold confL
  exact Nat.le_trans this (by simp)
theorem chL_len (C : List Bool) : (chL C).length = C.length := by simp [chL]
theorem fails_len {C : List Bool} (h : C.length ≤ 4000) : (lineL [[102, 97, 105, 108, 115], chL C]).length ≤ 60000 := by
  have := lineL_len [[102, 97, 105, 108, 115], chL C] (by
    intro x hx
    simp at hx
    rcases hx with rfl | rfl
    · simp
    · rw [chL_len]; omega)
  exact Nat.le_trans this (by simp)
theorem right_ok {F S L A : Int} {n : Nat} {D : List OpS} (h : rightE F S L A n D = 0) : confB F S L A = true ∧ n ≤ 4000 ∧ D.length ≤ 400 ∧ ∀ o ∈ D, o.may = true := by
  unfold rightE at h
  split at h
  · simp at h
  · split at h
    · simp at h
    · split at h
      · simp at h
      · rename_i h1 h2 h3
        refine ⟨by simpa using h1, by omega, by omega, ?_⟩
        simpa using h3
theorem rightE_bd (F S L A : Int) (n : Nat) (D : List OpS) : 0 ≤ rightE F S L A n D ∧ rightE F S L A n D ≤ 5 := by
  unfold rightE
  repeat' split
  all_goals omega

section
variable {w : World}
def putV (F S L A : Int) (C : List Bool) (D : List OpS) : List UInt8 := if rightE F S L A C.length D = 0 then putL F S L A C D else []

set_option maxRecDepth 100000 in
set_option maxHeartbeats 4000000 in
theorem put_no (F S L A : Int) (ch : Option Addr) (nch cch : Nat) (ad : Option Addr) (n c : Nat) (D : List OpS) (hn : n ≤ 500) (hD : OpsR w ad n D) (e : Int) (he : rightE F S L A nch D = e) (h0 : e ≠ 0) (_ : 0 ≤ e) (_ : e ≤ 5) :
    Calls Tryd.prog 8 #[scriptV F S L A (.slice ch nch cch) (.slice ad n c)] w (fun en w' => en = .returned (.tuple #[(Value.string ⟨List.toArray ([])⟩), .int .i64 e]) ∧ Below w.heap.size w w') := by
  have hC : True := trivial
  have hT : True := trivial
  have hB : True := trivial
  have hl := hD.1
  have hr := right_any (w := w) F S L A ch nch cch ad n c D (by omega) hD
  have HD := Lib.hid hD
  have HT := Lib.hid hT
  have HB := Lib.hid hB
  have HCH := Lib.hid hC
  clear hD hT hB hC
  have H0 := Holds.start w
  generalize hE : (⟨w.os, w.output, w.tape⟩ : Env) = E at *
  have hbel : ∀ w' A, Holds E w' (base w :: A) → Below w.heap.size w w' := fun w' A h => by subst hE; exact h.below rfl rfl rfl
  have HBL := Lib.hid hbel
  clear hE hbel
  have H1 := H0.alloc (.cells #[.int .i64 F, .int .i64 S, .int .i64 L, .int .i64 A, .slice ch nch cch, .slice ad n c] 27)
  obtain ⟨bx, hbx⟩ : ∃ bx, w.heap.size = bx := ⟨_, rfl⟩
  rw [hbx] at H1
  have hc1 := H1.cells
  have CR : Hid (∀ W A', Holds E W (base w :: A') → Calls Tryd.prog 18 #[scriptV F S L A (.slice ch nch cch) (.slice ad n c)] W (Pur W (.int .i64 (rightE F S L A nch D)))) := Lib.hid fun W A' h => right_any (w := W) F S L A ch nch cch ad n c D (by omega) (HD.out.below (HBL.out _ _ h))
  rw [he] at CR
  unfold scriptV at CR ⊢
  clear hr HD he
  go_enter Tryd.func8, Tryd.ntmps8
  go_wp2_with fail
  refine (purH H1 (CR.out _ _ H1.swap)).mono ?_
  rintro e w1 ⟨rfl, H2⟩
  go_wp2
  go_ret2
  exact ⟨rfl, HBL.out _ _ H2.drop⟩

theorem fr3 {E : Env} {W : World} {X Y Z : HP} (h : Holds E W [X, Y, Z]) : Holds E W [Z, X, Y] := h.take (Take.there _ (Take.there _ (Take.here _ _)))
set_option maxRecDepth 100000 in
set_option maxHeartbeats 4000000 in
theorem put_yes (hT : Tab w) (hB : Brj w) (F S L A : Int) (ch : Option Addr) (nch cch : Nat) (C : List Bool) (hCl : C.length = nch) (hC : ChR w ch C) (ad : Option Addr) (n c : Nat) (D : List OpS) (hn : n ≤ 500) (hD : OpsR w ad n D) (hA : AtOk D) (he : rightE F S L A nch D = 0) :
    Calls Tryd.prog 8 #[scriptV F S L A (.slice ch nch cch) (.slice ad n c)] w (fun en w' => en = .returned (.tuple #[(Value.string ⟨List.toArray (putL F S L A C D)⟩), .int .i64 0]) ∧ Below w.heap.size w w') := by
  obtain ⟨hcf, hnch, hn4, hmay⟩ := right_ok he
  have hl := hD.1
  have hr := right_any (w := w) F S L A ch nch cch ad n c D (by omega) hD
  have HD := Lib.hid hD
  have HT := Lib.hid hT
  have HB := Lib.hid hB
  have HCH := Lib.hid hC
  clear hD hT hB hC
  have H0 := Holds.start w
  generalize hE : (⟨w.os, w.output, w.tape⟩ : Env) = E at *
  have hbel : ∀ w' A, Holds E w' (base w :: A) → Below w.heap.size w w' := fun w' A h => by subst hE; exact h.below rfl rfl rfl
  have HBL := Lib.hid hbel
  clear hE hbel
  have H1 := H0.alloc (.cells #[.int .i64 F, .int .i64 S, .int .i64 L, .int .i64 A, .slice ch nch cch, .slice ad n c] 27)
  obtain ⟨bx, hbx⟩ : ∃ bx, w.heap.size = bx := ⟨_, rfl⟩
  rw [hbx] at H1
  have hc1 := H1.cells
  have CR : Hid (∀ W A', Holds E W (base w :: A') → Calls Tryd.prog 18 #[scriptV F S L A (.slice ch nch cch) (.slice ad n c)] W (Pur W (.int .i64 (rightE F S L A nch D)))) := Lib.hid fun W A' h => right_any (w := W) F S L A ch nch cch ad n c D (by omega) (HD.out.below (HBL.out _ _ h))
  rw [he] at CR
  unfold scriptV at CR ⊢
  have hll : (opsL D).length ≤ 400 * 100000 := by
    have := opsL_len D hA D.length (Nat.le_refl _)
    rw [List.take_length] at this
    exact Nat.le_trans this (Nat.mul_le_mul_right _ (by omega))
  have COP : Hid (∀ W A', Holds E W (base w :: A') → Calls Tryd.prog 11 #[.slice ad n c] W (Pur W ((Value.string ⟨List.toArray (opsL D)⟩)))) := Lib.hid fun W A' h => textOp (HT.out.below (HBL.out _ _ h)) (HB.out.below (HBL.out _ _ h)) ad n c D hn (HD.out.below (HBL.out _ _ h)) hA
  have CC : Hid (∀ W A', Holds E W (base w :: A') → Calls Tryd.prog 21 #[.slice ch nch cch] W (Pur W ((Value.string ⟨List.toArray (chL C)⟩)))) := Lib.hid fun W A' h => choices_any ch nch cch C hCl (by omega) (HCH.out.below (HBL.out _ _ h))
  obtain ⟨b1, b2, b3, b4⟩ := confB_bd hcf
  have i1 := itoa_len b1.1 b1.2
  have i2 := itoa_len b2.1 b2.2
  have i3 := itoa_len b3.1 b3.2
  have i4 := itoa_len b4.1 b4.2
  have CN : Hid (∀ x : Int, 0 ≤ x → x ≤ 255 → ∀ W A', Holds E W (base w :: A') → Calls Tryd.prog 20 #[.int .i64 x] W (Pur W ((Value.string ⟨List.toArray (Lib.itoa x)⟩)))) := Lib.hid fun x h0 h1 W A' h => number_any (HT.out.below (HBL.out _ _ h)) x (by omega) (by omega)
  have N1 := Lib.hid (CN.out F b1.1 b1.2)
  have N2 := Lib.hid (CN.out S b2.1 b2.2)
  have N3 := Lib.hid (CN.out L b3.1 b3.2)
  have N4 := Lib.hid (CN.out A b4.1 b4.2)
  have hlc := confL_len hcf
  have CL5 : Hid (∀ W A', Holds E W A' → Calls Tryd.prog 19 #[.slice (some ⟨W.heap.size, 0, none⟩) 5 5] (W.alloc (.cells #[(Value.string ⟨List.toArray ([99, 111, 110, 102])⟩), (Value.string ⟨List.toArray (Lib.itoa F)⟩), (Value.string ⟨List.toArray (Lib.itoa S)⟩), (Value.string ⟨List.toArray (Lib.itoa L)⟩), (Value.string ⟨List.toArray (Lib.itoa A)⟩)] 9)) (Ret E ((Value.string ⟨List.toArray (confL F S L A)⟩)) A')) := Lib.hid fun W A' h =>
    (lineCells (w := W) [[99, 111, 110, 102], Lib.itoa F, Lib.itoa S, Lib.itoa L, Lib.itoa A] 5 rfl (by decide) (by
      intro x hx
      simp at hx
      rcases hx with rfl | rfl | rfl | rfl | rfl
      · simp
      · omega
      · omega
      · omega
      · omega)).mono fun en w2 ⟨h1, h2⟩ => ⟨h1, h.ofBelow h2⟩
  have CL2 : Hid (∀ W A', Holds E W A' → Calls Tryd.prog 19 #[.slice (some ⟨W.heap.size, 0, none⟩) 2 2] (W.alloc (.cells #[(Value.string ⟨List.toArray ([102, 97, 105, 108, 115])⟩), (Value.string ⟨List.toArray (chL C)⟩)] 9)) (Ret E ((Value.string ⟨List.toArray (lineL [[102, 97, 105, 108, 115], chL C])⟩)) A')) := Lib.hid fun W A' h =>
    (lineCells (w := W) [[102, 97, 105, 108, 115], chL C] 2 rfl (by decide) (by
      intro x hx
      simp at hx
      rcases hx with rfl | rfl
      · simp
      · rw [chL_len]; omega)).mono fun en w2 ⟨h1, h2⟩ => ⟨h1, h.ofBelow h2⟩
  have hlf := fails_len (C := C) (by omega)
  unfold putL failsL
  rw [hCl]
  clear hCl hr HD HCH hmay hcf he CN hA hl b1 b2 b3 b4 i1 i2 i3 i4 HT HB
  generalize confL F S L A = lc at *
  generalize lineL [[102, 97, 105, 108, 115], chL C] = lf at *
  generalize chL C = cl at *
  generalize opsL D = lo at *
  generalize Lib.itoa F = sF at *
  generalize Lib.itoa S = sS at *
  generalize Lib.itoa L = sL at *
  generalize Lib.itoa A = sA at *
  rcases (by omega : nch = 0 ∨ 0 < nch) with rfl | h0
  · rw [if_neg (by omega), List.append_nil]
    go_enter Tryd.func8, Tryd.ntmps8
    go_wp2_with fail
    refine (purH H1 (CR.out _ _ H1.swap)).mono ?_
    rintro e w1 ⟨rfl, H2⟩
    have hc2 := H2.cells
    clear hc1
    have H3 := H2.alloc (.cells #[.int .i64 F, .int .i64 S, .int .i64 L, .int .i64 A] 23)
    have hc3 := H3.cells
    obtain ⟨bc, hbc⟩ : ∃ x, w1.heap.size = x := ⟨_, rfl⟩
    rw [hbc] at H3 hc3
    have HD := H3.drawn (w1.drawn + 1)
    go_wp2_with fail
    obtain ⟨AA, hAA⟩ : ∃ AA, AA = [pts bc (.cells #[.int .i64 F, .int .i64 S, .int .i64 L, .int .i64 A] 23 (0, 0)), pts bx (.cells #[.int .i64 F, .int .i64 S, .int .i64 L, .int .i64 A, .slice ch 0 cch, .slice ad n c] 27 (0, 0)), base w] := ⟨_, rfl⟩
    have KC : Hid (∀ W, Holds E W AA → W.cell? ⟨bc, 0, none⟩ = some (.int .i64 F) ∧ W.cell? ⟨bc, 1, none⟩ = some (.int .i64 S) ∧ W.cell? ⟨bc, 2, none⟩ = some (.int .i64 L) ∧ W.cell? ⟨bc, 3, none⟩ = some (.int .i64 A)) := Lib.hid fun W h => by
      subst hAA
      exact ⟨h.cells 0, h.cells 1, h.cells 2, h.cells 3⟩
    have M1 : Hid (∀ W, Holds E W AA → Calls Tryd.prog 20 #[.int .i64 F] W (Ret E ((Value.string ⟨List.toArray (sF)⟩)) AA)) := Lib.hid fun W h => by subst hAA; exact purH h (N1.out _ _ (fr3 h))
    have M2 : Hid (∀ W, Holds E W AA → Calls Tryd.prog 20 #[.int .i64 S] W (Ret E ((Value.string ⟨List.toArray (sS)⟩)) AA)) := Lib.hid fun W h => by subst hAA; exact purH h (N2.out _ _ (fr3 h))
    have M3 : Hid (∀ W, Holds E W AA → Calls Tryd.prog 20 #[.int .i64 L] W (Ret E ((Value.string ⟨List.toArray (sL)⟩)) AA)) := Lib.hid fun W h => by subst hAA; exact purH h (N3.out _ _ (fr3 h))
    have M4 : Hid (∀ W, Holds E W AA → Calls Tryd.prog 20 #[.int .i64 A] W (Ret E ((Value.string ⟨List.toArray (sA)⟩)) AA)) := Lib.hid fun W h => by subst hAA; exact purH h (N4.out _ _ (fr3 h))
    rw [← hAA] at H3 HD
    clear hc2 H2 H1 H0 CR hc3
    go_region_held3 (fun w' => w'.cell? ⟨bc, 0, none⟩ = some (.int .i64 F) ∧ w'.cell? ⟨bc, 1, none⟩ = some (.int .i64 S) ∧ w'.cell? ⟨bc, 2, none⟩ = some (.int .i64 L) ∧ w'.cell? ⟨bc, 3, none⟩ = some (.int .i64 A))
      (first
        | exact (KC.out _ (by assumption))
        | exact (KC.out _ ((Holds.alloc (by assumption) _).drop)))
      (first
        | (go_at_call 20; refine (M1.out _ (by assumption)).mono ?_; rintro e w4 ⟨rfl, HN⟩)
        | (go_at_call 20; refine (M2.out _ (by assumption)).mono ?_; rintro e w4 ⟨rfl, HN⟩)
        | (go_at_call 20; refine (M3.out _ (by assumption)).mono ?_; rintro e w4 ⟨rfl, HN⟩)
        | (go_at_call 20; refine (M4.out _ (by assumption)).mono ?_; rintro e w4 ⟨rfl, HN⟩)
        | (go_at_call 19; refine (CL5.out _ _ (by assumption)).mono ?_; rintro e w4 ⟨rfl, HN⟩))
    all_goals
      subst hAA
      clear M1 M2 M3 M4 KC
      have hc4 := HN.drop.cells
      go_wp2_with fail
      refine (purH HN (COP.out _ _ (fr3 HN))).mono ?_
      rintro e w5 ⟨rfl, H5⟩
      go_wp2
      go_ret2
      exact ⟨congrArg (fun x => Ending.returned (.tuple #[Value.string x, .int .i64 0])) (bapp lc lo), HBL.out _ _ H5.drop.drop⟩
  · rw [if_pos h0]
    go_enter Tryd.func8, Tryd.ntmps8
    go_wp2_with fail
    refine (purH H1 (CR.out _ _ H1.swap)).mono ?_
    rintro e w1 ⟨rfl, H2⟩
    have hc2 := H2.cells
    clear hc1
    have H3 := H2.alloc (.cells #[.int .i64 F, .int .i64 S, .int .i64 L, .int .i64 A] 23)
    have hc3 := H3.cells
    obtain ⟨bc, hbc⟩ : ∃ x, w1.heap.size = x := ⟨_, rfl⟩
    rw [hbc] at H3 hc3
    have HD := H3.drawn (w1.drawn + 1)
    go_wp2_with fail
    obtain ⟨AA, hAA⟩ : ∃ AA, AA = [pts bc (.cells #[.int .i64 F, .int .i64 S, .int .i64 L, .int .i64 A] 23 (0, 0)), pts bx (.cells #[.int .i64 F, .int .i64 S, .int .i64 L, .int .i64 A, .slice ch nch cch, .slice ad n c] 27 (0, 0)), base w] := ⟨_, rfl⟩
    have KC : Hid (∀ W, Holds E W AA → W.cell? ⟨bc, 0, none⟩ = some (.int .i64 F) ∧ W.cell? ⟨bc, 1, none⟩ = some (.int .i64 S) ∧ W.cell? ⟨bc, 2, none⟩ = some (.int .i64 L) ∧ W.cell? ⟨bc, 3, none⟩ = some (.int .i64 A)) := Lib.hid fun W h => by
      subst hAA
      exact ⟨h.cells 0, h.cells 1, h.cells 2, h.cells 3⟩
    have M1 : Hid (∀ W, Holds E W AA → Calls Tryd.prog 20 #[.int .i64 F] W (Ret E ((Value.string ⟨List.toArray (sF)⟩)) AA)) := Lib.hid fun W h => by subst hAA; exact purH h (N1.out _ _ (fr3 h))
    have M2 : Hid (∀ W, Holds E W AA → Calls Tryd.prog 20 #[.int .i64 S] W (Ret E ((Value.string ⟨List.toArray (sS)⟩)) AA)) := Lib.hid fun W h => by subst hAA; exact purH h (N2.out _ _ (fr3 h))
    have M3 : Hid (∀ W, Holds E W AA → Calls Tryd.prog 20 #[.int .i64 L] W (Ret E ((Value.string ⟨List.toArray (sL)⟩)) AA)) := Lib.hid fun W h => by subst hAA; exact purH h (N3.out _ _ (fr3 h))
    have M4 : Hid (∀ W, Holds E W AA → Calls Tryd.prog 20 #[.int .i64 A] W (Ret E ((Value.string ⟨List.toArray (sA)⟩)) AA)) := Lib.hid fun W h => by subst hAA; exact purH h (N4.out _ _ (fr3 h))
    rw [← hAA] at H3 HD
    clear hc2 H2 H1 H0 CR hc3
    go_region_held3 (fun w' => w'.cell? ⟨bc, 0, none⟩ = some (.int .i64 F) ∧ w'.cell? ⟨bc, 1, none⟩ = some (.int .i64 S) ∧ w'.cell? ⟨bc, 2, none⟩ = some (.int .i64 L) ∧ w'.cell? ⟨bc, 3, none⟩ = some (.int .i64 A))
      (first
        | exact (KC.out _ (by assumption))
        | exact (KC.out _ ((Holds.alloc (by assumption) _).drop)))
      (first
        | (go_at_call 20; refine (M1.out _ (by assumption)).mono ?_; rintro e w4 ⟨rfl, HN⟩)
        | (go_at_call 20; refine (M2.out _ (by assumption)).mono ?_; rintro e w4 ⟨rfl, HN⟩)
        | (go_at_call 20; refine (M3.out _ (by assumption)).mono ?_; rintro e w4 ⟨rfl, HN⟩)
        | (go_at_call 20; refine (M4.out _ (by assumption)).mono ?_; rintro e w4 ⟨rfl, HN⟩)
        | (go_at_call 19; refine (CL5.out _ _ (by assumption)).mono ?_; rintro e w4 ⟨rfl, HN⟩))
    all_goals
      subst hAA
      clear M1 M2 M3 M4 KC
      have hc4 := HN.drop.cells
      go_wp2_with fail
      refine (purH HN (CC.out _ _ (fr3 HN))).mono ?_
      rintro e w5 ⟨rfl, H5⟩
      clear hc4
      go_wp2_with fail
      refine (CL2.out _ _ H5).mono ?_
      rintro e w6 ⟨rfl, H6⟩
      have hc6 := H6.drop.cells
      go_wp2_with fail
      refine (purH H6 (COP.out _ _ (fr3 H6))).mono ?_
      rintro e w7 ⟨rfl, H7⟩
      go_wp2
      go_ret2
      have h := bapp (lc ++ lf) lo
      rw [← bapp lc lf] at h
      exact ⟨congrArg (fun x => Ending.returned (.tuple #[Value.string x, .int .i64 0])) h, HBL.out _ _ H7.drop.drop⟩

theorem put_any (hT : Tab w) (hB : Brj w) (F S L A : Int) (ch : Option Addr) (nch cch : Nat) (C : List Bool) (hCl : C.length = nch) (hC : ChR w ch C) (ad : Option Addr) (n c : Nat) (D : List OpS) (hn : n ≤ 500) (hD : OpsR w ad n D) (hA : AtOk D) :
    Calls Tryd.prog 8 #[scriptV F S L A (.slice ch nch cch) (.slice ad n c)] w (fun en w' => en = .returned (.tuple #[(Value.string ⟨List.toArray (putV F S L A C D)⟩), .int .i64 (rightE F S L A nch D)]) ∧ Below w.heap.size w w') := by
  unfold putV
  rw [hCl]
  by_cases h : rightE F S L A nch D = 0
  · rw [if_pos h, h]
    exact put_yes hT hB F S L A ch nch cch C hCl hC ad n c D hn hD hA h
  · rw [if_neg h]
    have := rightE_bd F S L A nch D
    exact put_no F S L A ch nch cch ad n c D hn hD _ rfl h this.1 this.2
end
end Go.Proofs.YtiidfgomfmfaoaaDoor
