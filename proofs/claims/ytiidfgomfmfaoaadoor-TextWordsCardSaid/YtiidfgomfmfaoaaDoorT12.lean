/-
  Text: which scripts may be; an op's line.
-/
import Derived.Test.YtiidfgomfmfaoaaDoorT11
import Derived.Deep.RegionHeld3
namespace Go.Proofs.YtiidfgomfmfaoaaDoor
open Go.RowKit

def scriptV (F S L A : Int) (ch ops : Value) : Value := .agg #[.int .i64 F, .int .i64 S, .int .i64 L, .int .i64 A, ch, ops]
def rightE (F S L A : Int) (nch : Nat) (D : List OpS) : Int := if confB F S L A = false then 1 else if 4000 < nch ∨ 400 < D.length then 5 else if D.any (fun o => !o.may) = true then 3 else 0

section
variable {w : World}
theorem containsFunc (ad : Option Addr) (n c : Nat) (D : List OpS) (hn : n ≤ 4611686018427387904) (hD : OpsR w ad n D) :
    Calls Tryd.prog 36 #[.slice ad n c, .func (.func 37) #[] #[]] w (Pur w (.bool (D.any (fun o => !o.may)))) := by
  have c1 := indexFunc ad n c D hn hD
  generalize D.any (fun o => !o.may) = q at *
  go_enter Tryd.func36, Tryd.ntmps36
  go_wp2_with fail
  refine c1.mono ?_
  rintro e w1 ⟨⟨i, rfl, hq⟩, hb⟩
  have HQ := Lib.hid hq
  clear hq
  go_wp2
  all_goals
    go_ret
    exact ⟨by first | (rw [← HQ.out]; rfl) | (rw [← HQ.out]; simp; omega), hb⟩

set_option maxRecDepth 100000 in
set_option maxHeartbeats 4000000 in
theorem right_any (F S L A : Int) (ch : Option Addr) (nch cch : Nat) (ad : Option Addr) (n c : Nat) (D : List OpS) (hn : n ≤ 4611686018427387904) (hD : OpsR w ad n D) :
    Calls Tryd.prog 18 #[scriptV F S L A (.slice ch nch cch) (.slice ad n c)] w (Pur w (.int .i64 (rightE F S L A nch D))) := by
  have hl := hD.1
  unfold rightE scriptV
  rw [hl]
  have H0 := Holds.start w
  generalize hE : (⟨w.os, w.output, w.tape⟩ : Env) = E at *
  have hbel : ∀ w' A, Holds E w' (base w :: A) → Below w.heap.size w w' := fun w' A h => by subst hE; exact h.below rfl rfl rfl
  have HBL := Lib.hid hbel
  clear hE hbel
  have H1 := H0.alloc (.cells #[.int .i64 F, .int .i64 S, .int .i64 L, .int .i64 A, .slice ch nch cch, .slice ad n c] 27)
  have hc1 := H1.cells
  have cc := Lib.hid fun W : World => conf_any (w := W) F S L A
  unfold confV at cc
  have cf := Lib.hid fun (w' : World) (hb : Below w.heap.size w w') => containsFunc (w := w') ad n c D hn (hD.below hb)
  generalize D.any (fun o => !o.may) = q at *
  generalize confB F S L A = qc at *
  clear hD hl
  cases qc with
  | false =>
    rw [if_pos rfl]
    go_enter Tryd.func18, Tryd.ntmps18
    go_wp2_with fail
    refine (purH H1 (cc.out _)).mono ?_
    rintro e w1 ⟨rfl, H2⟩
    have hc2 := H2.cells
    go_wp2
    go_ret
    exact ⟨rfl, HBL.out _ _ H2.drop⟩
  | true =>
    rw [if_neg (by decide)]
    rcases (by omega : 4000 < nch ∨ (nch ≤ 4000 ∧ 400 < n) ∨ (nch ≤ 4000 ∧ n ≤ 400)) with h | ⟨h, h2⟩ | ⟨h, h2⟩
    case inr.inr =>
      rw [if_neg (by omega)]
      cases q
      all_goals
        go_enter Tryd.func18, Tryd.ntmps18
        go_wp2_with fail
        refine (purH H1 (cc.out _)).mono ?_
        rintro e w1 ⟨rfl, H2⟩
        have hc2 := H2.cells
        go_wp2_with fail
        refine (purH H2 (cf.out _ (HBL.out _ _ H2.drop))).mono ?_
        rintro e w2 ⟨rfl, H3⟩
        go_wp2
        go_ret
        exact ⟨rfl, HBL.out _ _ H3.drop⟩
    all_goals
      rw [if_pos (by omega)]
      go_enter Tryd.func18, Tryd.ntmps18
      go_wp2_with fail
      refine (purH H1 (cc.out _)).mono ?_
      rintro e w1 ⟨rfl, H2⟩
      have hc2 := H2.cells
      go_wp2
      go_ret
      exact ⟨rfl, HBL.out _ _ H2.drop⟩
end
end Go.Proofs.YtiidfgomfmfaoaaDoor
