/-
  Text: ops in memory; whether all of them may be.
-/
import Derived.Test.YtiidfgomfmfaoaaDoorT10
namespace Go.Proofs.YtiidfgomfmfaoaaDoor
open Go.RowKit

structure OpS where
  kind : Int
  perm : Int
  n : Int
  at' : Int
  data : List UInt8
def OpS.none : OpS := ⟨0, 0, 0, 0, []⟩
def OpS.may (o : OpS) : Bool := mayO o.kind o.perm o.n o.at' o.data.length
/-- Through v the bytes l are read. -/
def BytesR (w : World) (v : Value) (l : List UInt8) : Prop :=
  ∃ ad c, v = .slice ad l.length c ∧ ∀ k (hk : k < l.length), ∃ b o, ad = some ⟨b, o, none⟩ ∧ w.cell? ⟨b, o + k, none⟩ = some (.int .u8 (l[k].toNat : Int))
theorem BytesR.below {w w' : World} {v : Value} {l : List UInt8} (h : BytesR w v l) (hb : Below w.heap.size w w') : BytesR w' v l := by
  obtain ⟨ad, c, rfl, hc⟩ := h
  refine ⟨ad, c, rfl, fun k hk => ?_⟩
  obtain ⟨b, o, h1, h2⟩ := hc k hk
  refine ⟨b, o, h1, ?_⟩
  rw [← h2]
  exact hb.cell (p := ⟨b, o + k, none⟩) (World.block_lt_of_cell? _ _ h2)
/-- Through the slice ad of n ops the list D is read. -/
def OpsR (w : World) (ad : Option Addr) (n : Nat) (D : List OpS) : Prop :=
  D.length = n ∧ ∀ i, i < n → ∃ b o v, ad = some ⟨b, o, none⟩ ∧ w.cell? ⟨b, o + i * 5, none⟩ = some (.int .i64 (D.getD i OpS.none).kind) ∧ w.cell? ⟨b, o + i * 5 + 1, none⟩ = some (.int .i64 (D.getD i OpS.none).perm) ∧ w.cell? ⟨b, o + i * 5 + 2, none⟩ = some (.int .i64 (D.getD i OpS.none).n) ∧ w.cell? ⟨b, o + i * 5 + 3, none⟩ = some (.int .u64 (D.getD i OpS.none).at') ∧ w.cell? ⟨b, o + i * 5 + 4, none⟩ = some v ∧ BytesR w v (D.getD i OpS.none).data
theorem OpsR.below {w w' : World} {ad : Option Addr} {n : Nat} {D : List OpS} (h : OpsR w ad n D) (hb : Below w.heap.size w w') : OpsR w' ad n D := by
  refine ⟨h.1, fun i hi => ?_⟩
  obtain ⟨b, o, v, h1, c0, c1, c2, c3, c4, hv⟩ := h.2 i hi
  have hl := World.block_lt_of_cell? _ _ c0
  refine ⟨b, o, v, h1, ?_, ?_, ?_, ?_, ?_, hv.below hb⟩
  · rw [← c0]; exact hb.cell (p := ⟨b, o + i * 5, none⟩) hl
  · rw [← c1]; exact hb.cell (p := ⟨b, o + i * 5 + 1, none⟩) hl
  · rw [← c2]; exact hb.cell (p := ⟨b, o + i * 5 + 2, none⟩) hl
  · rw [← c3]; exact hb.cell (p := ⟨b, o + i * 5 + 3, none⟩) hl
  · rw [← c4]; exact hb.cell (p := ⟨b, o + i * 5 + 4, none⟩) hl

def AllMay (D : List OpS) (k : Nat) : Prop := ∀ j, j < k → (D.getD j OpS.none).may = true
theorem any_no {D : List OpS} {k : Nat} (hk : D.length ≤ k) (h : AllMay D k) : D.any (fun o => !o.may) = false := by
  rw [List.any_eq_false]
  intro o ho
  obtain ⟨j, hj, rfl⟩ := List.getElem_of_mem ho
  have := h j (by omega)
  simp only [List.getD, List.getElem?_eq_getElem hj, Option.getD_some] at this
  simp [this]
theorem any_yes {D : List OpS} {k : Nat} (hk : k < D.length) (h : (D.getD k OpS.none).may = false) : D.any (fun o => !o.may) = true := by
  rw [List.any_eq_true]
  refine ⟨D[k], List.getElem_mem hk, ?_⟩
  simp only [List.getD, List.getElem?_eq_getElem hk, Option.getD_some] at h
  simp [h]

section
variable {w : World}
theorem right1 (k p n at' : Int) (ad : Option Addr) (m c : Nat) : Calls Tryd.prog 37 #[opV k p n at' (.slice ad m c)] w (Pur w (.bool (!mayO k p n at' m))) := by
  have H0 := Holds.start w
  generalize hE : (⟨w.os, w.output, w.tape⟩ : Env) = E at *
  have hbel : ∀ w' A, Holds E w' (base w :: A) → Below w.heap.size w w' := fun w' A h => by subst hE; exact h.below rfl rfl rfl
  have HBL := Lib.hid hbel
  clear hE hbel
  have H1 := H0.alloc (.cells #[.int .i64 k, .int .i64 p, .int .i64 n, .int .u64 at', .slice ad m c] 38)
  have hc1 := H1.cells
  have c1 := Lib.hid fun W : World => may_any (w := W) k p n at' ad m c
  unfold opV at c1 ⊢
  generalize mayO k p n at' m = q at *
  go_enter Tryd.func37, Tryd.ntmps37
  go_wp2_with fail
  refine (purH H1 (c1.out _)).mono ?_
  rintro e w1 ⟨rfl, H2⟩
  go_wp2
  go_ret
  exact ⟨rfl, HBL.out _ _ H2.drop⟩

set_option maxRecDepth 100000 in
set_option maxHeartbeats 2000000 in
theorem indexFunc (ad : Option Addr) (n c : Nat) (D : List OpS) (hn : n ≤ 4611686018427387904) (hD : OpsR w ad n D) :
    Calls Tryd.prog 46 #[.slice ad n c, .func (.func 37) #[] #[]] w (fun en w' => (∃ i : Int, en = .returned (.int .i64 i) ∧ decide (0 ≤ i) = D.any (fun o => !o.may)) ∧ Below w.heap.size w w') := by
  have HD := Lib.hid hD
  have hl := hD.1
  clear hD
  go_enter Tryd.func46, Tryd.ntmps46
  go_wp2
  go_loopw [8] (fun i wr => ∃ k : Nat, k ≤ n ∧ i = .int .i64 (k : Nat) ∧ Hid (AllMay D k) ∧ Hid (Below w.heap.size w wr)) (fun i _ => n - (intOf i).toNat)
  case atStart => exact ⟨0, by omega, rfl, Lib.hid (fun j hj => absurd hj (by omega)), Lib.hid (Below.refl _ _)⟩
  case round =>
    obtain ⟨k, hk, rfl, hA, hb⟩ := hrel
    by_cases hlt : k < n
    · obtain ⟨b, o, v, rfl, c0, c1, c2, c3, c4, hv⟩ := (HD.out.below hb.out).2 k hlt
      have hm : ∀ q, (D.getD k OpS.none).may = q → mayO (D.getD k OpS.none).kind (D.getD k OpS.none).perm (D.getD k OpS.none).n (D.getD k OpS.none).at' (D.getD k OpS.none).data.length = q := fun q h => h
      have hno : (D.getD k OpS.none).may = false → D.any (fun o => !o.may) = true := any_yes (by omega)
      have hyes : (D.getD k OpS.none).may = true → AllMay D (k + 1) := fun h j hj => by
        by_cases hj' : j = k
        · subst hj'; exact h
        · exact hA.out j (by omega)
      obtain ⟨av, cv, rfl, _⟩ := hv
      have cr := Lib.hid fun W : World => right1 (w := W) (D.getD k OpS.none).kind (D.getD k OpS.none).perm (D.getD k OpS.none).n (D.getD k OpS.none).at' av (D.getD k OpS.none).data.length cv
      unfold opV at cr
      cases hq : (D.getD k OpS.none).may
      all_goals
        rw [hm _ hq] at cr
        have HNO := Lib.hid hno
        have HYES := Lib.hid hyes
        have HQ := Lib.hid hq
        clear hm hno hyes hq
        generalize D.getD k OpS.none = op at *
        go_wp2_with fail
        refine (cr.out _).mono ?_
        rintro e w1 ⟨rfl, hb1⟩
        have hb2 := Lib.hid (hb.out.trans (hb1.mono hb.out.size))
        go_wp2
        first
          | (go_roundw
             case rel => exact ⟨k + 1, by omega, by go_num, Lib.hid (HYES.out HQ.out), hb2⟩
             case measure => simp [intOf]; omega)
          | (go_ret
             exact ⟨⟨_, rfl, by rw [HNO.out HQ.out]; simp⟩, hb2.out⟩)
    · obtain rfl : k = n := by omega
      go_wp2
      go_ret
      exact ⟨⟨_, rfl, by rw [any_no (by omega) hA.out]; rfl⟩, hb.out⟩
end
end Go.Proofs.YtiidfgomfmfaoaaDoor
