/-
  Text: the reference's line of an op.
-/
import Derived.Test.YtiidfgomfmfaoaaDoorT18
namespace Go.Proofs.YtiidfgomfmfaoaaDoor
open Go.RowKit
section
variable {w : World}
theorem strVs_get (k : Nat) (hk : k < 11) : (strVs names11)[k]? = some ((Value.string ⟨List.toArray (names11.getD k [])⟩)) := by
  match k with
  | 0 | 1 | 2 | 3 | 4 | 5 | 6 | 7 | 8 | 9 | 10 => rfl
  | k + 11 => omega
theorem refNum (n : Int) (h0 : 0 ≤ n) (h : n ≤ 255) : Calls Tryd.prog 26 #[.int .i64 n] w (Pur w ((Value.string ⟨List.toArray (Lib.itoa n)⟩))) := by
  obtain ⟨m, rfl⟩ : ∃ m : Nat, n = m := ⟨n.toNat, by omega⟩
  have := refNumber (w := w) m (by omega)
  unfold Lib.itoa
  rw [if_neg (by omega), Int.toNat_natCast]
  exact this

def tailL (b : Bool) (x : List UInt8) : List UInt8 := if b then [32] ++ x else []
theorem opLine_eq (nm la lp ln lb : List UInt8) (pa pb pc pd : Bool) :
    lineL ([nm] ++ (if pb then [la] else []) ++ (if pa then [lp] else []) ++ (if pc then [ln] else []) ++ (if pd then [lb] else [])) = nm ++ tailL pb la ++ tailL pa lp ++ tailL pc ln ++ tailL pd lb ++ [10] := by
  unfold lineL tailL
  cases pa <;> cases pb <;> cases pc <;> cases pd <;> simp [Lib.join_cons, Lib.joinTail]

set_option maxRecDepth 100000 in
set_option maxHeartbeats 8000000 in
theorem refOp_any (o : OpS) (hat : 0 ≤ o.at' ∧ o.at' < 18446744073709551616) (v : Value) (hv : BytesR w v o.data) (hm : o.may = true) :
    Calls Tryd.prog 10 #[opV o.kind o.perm o.n o.at' v] w (Pur w ((Value.string ⟨List.toArray (opLine o)⟩))) := by
  unfold opLine opWords
  rw [opLine_eq]
  obtain ⟨k, p, n, a, data⟩ := o
  obtain ⟨⟨hk0, hk1⟩, hn, hd⟩ := mayO_split hm
  have HV := Lib.hid hv
  obtain ⟨ad, c, rfl, _⟩ := hv
  simp only at hat hk0 hk1 hn hd HV ⊢
  clear hm
  obtain ⟨at', rfl⟩ : ∃ x : Nat, a = x := ⟨a.toNat, by omega⟩
  obtain ⟨k, rfl⟩ : ∃ x : Nat, k = x := ⟨k.toNat, by omega⟩
  simp only [Int.toNat_natCast]
  have hal : ([48, 120] ++ hexD at' : List UInt8).length ≤ 10000 := by have := hexD_len 15 at' (by omega); simp; omega
  have hnl := names_len k
  have hpl := perm_len p
  have hil : (fieldsB k).2.2.1 = true → (Lib.itoa n).length ≤ 100 := fun h => itoa_len (hn h).1 (hn h).2
  have hbl : (bytesL data).length ≤ 1000 := by have := bytesL_len data; omega
  have hka : Hid (∀ W A bn E, Holds E W (pts bn (.cells (strVs names11) 9) :: A) → W.cell? ⟨bn, k, none⟩ = some ((Value.string ⟨List.toArray (names11.getD k [])⟩))) := Lib.hid fun W A bn E h => by
    rw [h.cells k]
    exact strVs_get k (by omega)
  have H0 := Holds.start w
  generalize hE : (⟨w.os, w.output, w.tape⟩ : Env) = E at *
  have hbel : ∀ w' A, Holds E w' (base w :: A) → Below w.heap.size w w' := fun w' A h => by subst hE; exact h.below rfl rfl rfl
  have HBL := Lib.hid hbel
  clear hE hbel
  have CA : Hid (∀ W A, Holds E W A → Calls Tryd.prog 25 #[.int .u64 (at' : Nat)] W (Ret E ((Value.string ⟨List.toArray ([48, 120] ++ hexD at')⟩)) A)) := Lib.hid fun W A h => purH h (refAddress at' (by omega))
  have CP : Hid (∀ W A, Holds E W A → Calls Tryd.prog 14 #[.int .i64 p] W (Ret E ((Value.string ⟨List.toArray (permW p)⟩)) A)) := Lib.hid fun W A h => purH h (refPerm p)
  have CN : Hid ((fieldsB k).2.2.1 = true → ∀ W A, Holds E W A → Calls Tryd.prog 26 #[.int .i64 n] W (Ret E ((Value.string ⟨List.toArray (Lib.itoa n)⟩)) A)) := Lib.hid fun hc W A h => purH h (refNum n (hn hc).1 (hn hc).2)
  have CB : Hid (∀ W A, Holds E W (base w :: A) → Calls Tryd.prog 16 #[.slice ad data.length c] W (Pur W ((Value.string ⟨List.toArray (bytesL data)⟩)))) := Lib.hid fun W A h => by
    obtain ⟨ad', c', he, hc⟩ := HV.out.below (HBL.out _ _ h)
    cases he
    exact refBytes ad _ c data rfl (by omega) hc
  have CH : Hid (∀ W A, Holds E W A → Calls Tryd.prog 22 #[.int .i64 (k : Nat)] W (Ret E (hasV (fieldsB k)) A)) := Lib.hid fun W A h => purH h (refHas_any k)
  have CM : Hid (∀ W A, Holds E W A → Calls Tryd.prog 24 #[] W (RetEx E (fun b : Nat => .slice (some ⟨b, 0, none⟩) 11 11) (fun b => pts b (.cells (strVs names11) 9) :: A))) := Lib.hid fun W A h => refNames.mono fun en w' ⟨h1, h2⟩ => ⟨W.heap.size, h1, by rw [h2]; exact h.alloc _⟩
  generalize bytesL data = lb at *
  generalize Lib.itoa n = ln at *
  generalize permW p = lp at *
  generalize [48, 120] ++ hexD at' = la at *
  generalize names11.getD k [] = nm at *
  generalize strVs names11 = ns at *
  obtain ⟨⟨ba, bb, bc, bd⟩, hF⟩ : ∃ F, fieldsB k = F := ⟨_, rfl⟩
  rw [hF] at CN CH hil ⊢
  unfold hasV at CH
  simp only at CN CH hil ⊢
  clear hF hn HV
  have H1 := H0.alloc (.cells #[.int .i64 (k : Nat), .int .i64 p, .int .i64 n, .int .u64 (at' : Nat), .slice ad data.length c] 38)
  obtain ⟨bx, hbx⟩ : ∃ bx, w.heap.size = bx := ⟨_, rfl⟩
  rw [hbx] at H1
  have hc1 := H1.cells
  have HKC : Hid (∀ W A, Holds E W (pts bx (.cells #[.int .i64 (k : Nat), .int .i64 p, .int .i64 n, .int .u64 (at' : Nat), .slice ad data.length c] 38 (0, 0)) :: A) → W.cell? ⟨bx, 0, none⟩ = some (.int .i64 (k : Nat))) := Lib.hid fun W A h => h.cells 0
  have HD := H1.drawn ((w.alloc (.cells #[.int .i64 (k : Nat), .int .i64 p, .int .i64 n, .int .u64 (at' : Nat), .slice ad data.length c] 38)).drawn + 1)
  obtain ⟨r, hr⟩ : ∃ r, nm ++ tailL bb la ++ tailL ba lp ++ tailL bc ln ++ tailL bd lb ++ [10] = r := ⟨_, rfl⟩
  rw [hr]
  have HR := Lib.hid hr
  clear hr H0
  have HKD := HBL
  unfold opV
  go_enter Tryd.func10, Tryd.ntmps10
  go_wp2_with fail
  first
    | go_region_with (first | (go_at_call 24; refine (CM.out _ _ (by assumption)).mono ?_; rintro e w4 ⟨bn, rfl, HN⟩; have hcn := hka.out _ _ _ _ HN; have hcx := HKC.out _ _ HN.drop))
    | fail
  all_goals
    have HQ := HN.drop
    clear HN hcn
    go_wp2_with fail
    refine (CH.out _ _ HQ).mono ?_
    rintro e w5 ⟨rfl, H5⟩
    clear hcx HQ hc1 H1
    have H6 := H5.alloc (.cells #[.bool ba, .bool bb, .bool bc, .bool bd] 49)
    have h1 := H6.cells
    have h2 := H6.swap.cells
    obtain ⟨bh, hbh⟩ : ∃ x, w5.heap.size = x := ⟨_, rfl⟩
    rw [hbh] at H6 h1
    cases bb <;> cases ba <;> cases bc <;> cases bd
  all_goals
    first
      | (have hil' := hil (by decide); have CN' := Lib.hid (CN.out (by decide)); clear hil CN; have hil := hil'; have CN := CN'; clear hil' CN')
      | clear hil CN
    repeat
      go_wp2_with fail
      first
        | (go_at_call 25; refine (CA.out _ _ H6).mono ?_; rintro e w6 ⟨rfl, HX⟩; clear h1 h2 H6; have H6 := HX; clear HX; have h1 := H6.cells; have h2 := H6.swap.cells)
        | (go_at_call 14; refine (CP.out _ _ H6).mono ?_; rintro e w6 ⟨rfl, HX⟩; clear h1 h2 H6; have H6 := HX; clear HX; have h1 := H6.cells; have h2 := H6.swap.cells)
        | (go_at_call 26; refine (CN.out _ _ H6).mono ?_; rintro e w6 ⟨rfl, HX⟩; clear h1 h2 H6; have H6 := HX; clear HX; have h1 := H6.cells; have h2 := H6.swap.cells)
        | (go_at_call 16; refine (purH H6 (CB.out _ _ (fr3 H6))).mono ?_; rintro e w6 ⟨rfl, HX⟩; clear h1 h2 H6; have H6 := HX; clear HX; have h1 := H6.cells; have h2 := H6.swap.cells)
    go_wp2
    go_ret
    refine ⟨congrArg (fun x => Ending.returned (Value.string x)) ?_, HBL.out _ _ H6.drop.drop⟩
    rw [← HR.out]
    simp [bapp, tailL]
end
end Go.Proofs.YtiidfgomfmfaoaaDoor
