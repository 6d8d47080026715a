/-
  Text: an op's line.
-/
import Derived.Test.YtiidfgomfmfaoaaDoorT12
namespace Go.Proofs.YtiidfgomfmfaoaaDoor
open Go.RowKit

/-- The words of an op's line. -/
def opWords (o : OpS) : List (List UInt8) :=
  [names11.getD o.kind.toNat []] ++ (if (fieldsB o.kind).2.1 then [[48, 120] ++ hexD o.at'.toNat] else []) ++ (if (fieldsB o.kind).1 then [permW o.perm] else []) ++
    (if (fieldsB o.kind).2.2.1 then [Lib.itoa o.n] else []) ++ (if (fieldsB o.kind).2.2.2 then [bytesL o.data] else [])

theorem lineCells {w : World} (ws : List (List UInt8)) (n : Nat) (hn : ws.length = n) (h0 : n ≤ 10) (h10 : ∀ x ∈ ws, x.length ≤ 10000) :
    Calls Tryd.prog 19 #[.slice (some ⟨w.heap.size, 0, none⟩) n n] (w.alloc (.cells (strVs ws) 9)) (fun en w' => en = .returned ((Value.string ⟨List.toArray (lineL ws)⟩)) ∧ Below w.heap.size w w') := by
  have h := line_any (w := w.alloc (.cells (strVs ws) 9)) w.heap.size 0 n n ws hn (by simp) (Nat.le_refl _) h0 h10 (by
    intro j x hx
    rw [Nat.zero_add, Holds.cellAny (heap_alloc_new w _)]
    simp [strVs, hx])
  have hb := (Below.refl _ w).alloc (Nat.le_refl _) (.cells (strVs ws) 9)
  exact h.mono fun en w' ⟨h1, h2⟩ => ⟨h1, hb.trans (h2.mono (by simp))⟩

section
variable {w : World}
set_option maxRecDepth 100000 in
theorem itoa_len {n : Int} (h0 : 0 ≤ n) (h : n ≤ 255) : (Lib.itoa n).length ≤ 100 := by
  have h1 : ∀ k : Fin 256, (Lib.itoa (k.val : Int)).length ≤ 100 := by decide +kernel
  have := h1 ⟨n.toNat, by omega⟩
  simpa [Int.toNat_of_nonneg h0] using this
theorem perm_len (p : Int) : (permW p).length ≤ 100 := by
  unfold permW
  split
  · simp
  · split
    · unfold permL
      repeat' split
      all_goals simp
    · exact itoa_len (by omega) (by omega)

theorem names_len (k : Nat) : (names11.getD k []).length ≤ 10000 := by
  unfold names11
  match k with
  | 0 | 1 | 2 | 3 | 4 | 5 | 6 | 7 | 8 | 9 | 10 => decide
  | k + 11 => simp [List.getD]

set_option maxRecDepth 100000 in
set_option maxHeartbeats 4000000 in
theorem op_num (hT : Tab w) (hB : Brj w) (k p n : Int) (at' : Nat) (hat : at' < 18446744073709551616) (ad : Option Addr) (c : Nat) (data : List UInt8) (nm : List UInt8) (hk0 : 0 ≤ k) (hk11 : k < 11) (hnm : names11.getD k.toNat [] = nm) (hk : k = 3 ∨ k = 5) (hc3 : ∀ w', Below w.heap.size w w' → Tab w' → Calls Tryd.prog 20 #[.int .i64 n] w' (Pur w' ((Value.string ⟨List.toArray (Lib.itoa n)⟩)))) (l3 : List UInt8) (hl3 : Lib.itoa n = l3) (hlen3 : l3.length ≤ 10000) : Calls Tryd.prog 28 #[opV k p n (at' : Nat) (.slice ad data.length c)] w (Pur w ((Value.string ⟨List.toArray (lineL [nm, [48, 120] ++ hexD at', l3])⟩))) := by
  unfold opV
  have H0 := Holds.start w
  generalize hE : (⟨w.os, w.output, w.tape⟩ : Env) = E at *
  have hbel : ∀ w' A, Holds E w' (base w :: A) → Below w.heap.size w w' := fun w' A h => by subst hE; exact h.below rfl rfl rfl
  have HBL := Lib.hid hbel
  clear hE hbel
  have HT := Lib.hid fun w' A (h : Holds E w' (base w :: A)) => hT.below (HBL.out _ _ h)
  have HB := Lib.hid fun w' A (h : Holds E w' (base w :: A)) => hB.below (HBL.out _ _ h)
  have H1 := H0.alloc (.cells #[.int .i64 k, .int .i64 p, .int .i64 n, .int .u64 (at' : Nat), .slice ad data.length c] 38)
  have hc1 := H1.cells
  obtain ⟨bx, hbx⟩ : ∃ bx, w.heap.size = bx := ⟨_, rfl⟩
  rw [hbx] at H1 hc1
  have HBX := Lib.hid hbx
  obtain ⟨A, hA⟩ : ∃ A, A = [pts bx (.cells #[.int .i64 k, .int .i64 p, .int .i64 n, .int .u64 (at' : Nat), .slice ad data.length c] 38 (0, 0)), base w] := ⟨_, rfl⟩
  have HC : Hid (∀ w', Holds E w' A → w'.cell? ⟨bx, 0, none⟩ = some (.int .i64 k) ∧ w'.cell? ⟨bx, 1, none⟩ = some (.int .i64 p) ∧ w'.cell? ⟨bx, 2, none⟩ = some (.int .i64 n) ∧ w'.cell? ⟨bx, 3, none⟩ = some (.int .u64 (at' : Nat)) ∧ w'.cell? ⟨bx, 4, none⟩ = some (.slice ad data.length c)) := Lib.hid fun w' h => by
    subst hA
    exact ⟨h.cells 0, h.cells 1, h.cells 2, h.cells 3, h.cells 4⟩
  have HE : Hid (∀ w', Holds E w' A → Below w.heap.size w w') := Lib.hid fun w' h => by subst hA; exact HBL.out _ _ h.drop
  have HTA : Hid (∀ w', Holds E w' A → Tab w') := Lib.hid fun w' h => hT.below (HE.out _ h)
  have HBA : Hid (∀ w', Holds E w' A → Brj w') := Lib.hid fun w' h => hB.below (HE.out _ h)
  have CW : Hid (∀ w', Holds E w' A → Calls Tryd.prog 42 #[.int .i64 k] w' (Ret E ((Value.string ⟨List.toArray (nm)⟩)) A)) := Lib.hid fun w' h => purH h (hnm ▸ (show Calls Tryd.prog 42 #[.int .i64 k] w' (Pur w' ((Value.string ⟨List.toArray (names11.getD k.toNat [])⟩))) from by have := word_any (w := w') k.toNat (by omega); rwa [Int.toNat_of_nonneg (by omega)] at this))
  have CA : Hid (∀ w', Holds E w' A → Calls Tryd.prog 43 #[.int .u64 (at' : Nat)] w' (Ret E ((Value.string ⟨List.toArray ([48, 120] ++ hexD at')⟩)) A)) := Lib.hid fun w' h => purH h (address_any (HBA.out _ h) at' hat)
  rw [← hA] at H1
  have hnl : nm.length ≤ 10000 := by rw [← hnm]; exact names_len _
  have hal : ([48, 120] ++ hexD at' : List UInt8).length ≤ 10000 := by have := hexD_len 15 at' hat; simp; omega
  clear hA hT hB
  have HK : Hid (∀ w', Holds E w' A → w'.cell? ⟨bx, 3, none⟩ = some (.int .u64 (at' : Nat)) ∧ w'.cell? ⟨bx, 2, none⟩ = some (.int .i64 n)) := Lib.hid fun w' h => ⟨(HC.out _ h).2.2.2.1, (HC.out _ h).2.2.1⟩
  have C3 : Hid (∀ w', Holds E w' A → Calls Tryd.prog 20 #[.int .i64 n] w' (Ret E ((Value.string ⟨List.toArray (l3)⟩)) A)) := Lib.hid fun w' h => purH h (hl3 ▸ hc3 w' (HE.out _ h) (HTA.out _ h))
  generalize hla : [48, 120] ++ hexD at' = la at *
  have CL : Hid (∀ w', Holds E w' A → Calls Tryd.prog 19 #[.slice (some ⟨w'.heap.size, 0, none⟩) 3 3] (w'.alloc (.cells #[(Value.string ⟨List.toArray (nm)⟩), (Value.string ⟨List.toArray (la)⟩), (Value.string ⟨List.toArray (l3)⟩)] 9)) (Ret E ((Value.string ⟨List.toArray (lineL [nm, la, l3])⟩)) A)) := Lib.hid fun w' h =>
    (lineCells (w := w') [nm, la, l3] 3 rfl (by decide) (by intro x hx; simp at hx; rcases hx with rfl | rfl | rfl <;> assumption)).mono fun en w2 ⟨h1, h2⟩ => ⟨h1, h.ofBelow h2⟩
  generalize lineL [nm, la, l3] = ll at *
  clear hc3 hl3 hla hnm hal hlen3 hnl
  obtain ⟨hd0, hd1, hd2, hd3, hd4⟩ := HC.out _ H1
  rcases hk with rfl | rfl
  all_goals
    go_enter Tryd.func28, Tryd.ntmps28
    go_wp2_with fail
    refine (CW.out _ H1).mono ?_
    rintro e w1 ⟨rfl, H2⟩
    clear hc1 hd0 hd1 hd2 hd3 hd4
    obtain ⟨hd0, hd1, hd2, hd3, hd4⟩ := HC.out _ H2
    have HD := H2.drawn (w1.drawn + 1)
    go_wp2_with fail
    go_region_held3 (fun w' => w'.cell? ⟨bx, 3, none⟩ = some (.int .u64 (at' : Nat)) ∧ w'.cell? ⟨bx, 2, none⟩ = some (.int .i64 n))
      (first
        | exact (HK.out _ (by assumption))
        | exact (HK.out _ ((Holds.alloc (by assumption) _).drop)))
      (first
        | (go_at_call 43; refine (CA.out _ (by assumption)).mono ?_; rintro e w4 ⟨rfl, HN⟩)
        | (go_at_call 20; refine (C3.out _ (by assumption)).mono ?_; rintro e w4 ⟨rfl, HN⟩)
        | (go_at_call 19; refine (CL.out _ (by assumption)).mono ?_; rintro e w4 ⟨rfl, HN⟩))
    all_goals go_wp2
    all_goals go_ret
    all_goals exact ⟨rfl, HE.out _ HN⟩
set_option maxRecDepth 100000 in
set_option maxHeartbeats 4000000 in
theorem op_bytes (hT : Tab w) (hB : Brj w) (k p n : Int) (at' : Nat) (hat : at' < 18446744073709551616) (ad : Option Addr) (c : Nat) (data : List UInt8) (nm : List UInt8) (hk0 : 0 ≤ k) (hk11 : k < 11) (hnm : names11.getD k.toNat [] = nm) (hk : k = 4 ∨ k = 4) (hc3 : ∀ w', Below w.heap.size w w' → Tab w' → Calls Tryd.prog 15 #[.slice ad data.length c] w' (Pur w' ((Value.string ⟨List.toArray (bytesL data)⟩)))) (l3 : List UInt8) (hl3 : bytesL data = l3) (hlen3 : l3.length ≤ 10000) : Calls Tryd.prog 28 #[opV k p n (at' : Nat) (.slice ad data.length c)] w (Pur w ((Value.string ⟨List.toArray (lineL [nm, [48, 120] ++ hexD at', l3])⟩))) := by
  unfold opV
  have H0 := Holds.start w
  generalize hE : (⟨w.os, w.output, w.tape⟩ : Env) = E at *
  have hbel : ∀ w' A, Holds E w' (base w :: A) → Below w.heap.size w w' := fun w' A h => by subst hE; exact h.below rfl rfl rfl
  have HBL := Lib.hid hbel
  clear hE hbel
  have HT := Lib.hid fun w' A (h : Holds E w' (base w :: A)) => hT.below (HBL.out _ _ h)
  have HB := Lib.hid fun w' A (h : Holds E w' (base w :: A)) => hB.below (HBL.out _ _ h)
  have H1 := H0.alloc (.cells #[.int .i64 k, .int .i64 p, .int .i64 n, .int .u64 (at' : Nat), .slice ad data.length c] 38)
  have hc1 := H1.cells
  obtain ⟨bx, hbx⟩ : ∃ bx, w.heap.size = bx := ⟨_, rfl⟩
  rw [hbx] at H1 hc1
  have HBX := Lib.hid hbx
  obtain ⟨A, hA⟩ : ∃ A, A = [pts bx (.cells #[.int .i64 k, .int .i64 p, .int .i64 n, .int .u64 (at' : Nat), .slice ad data.length c] 38 (0, 0)), base w] := ⟨_, rfl⟩
  have HC : Hid (∀ w', Holds E w' A → w'.cell? ⟨bx, 0, none⟩ = some (.int .i64 k) ∧ w'.cell? ⟨bx, 1, none⟩ = some (.int .i64 p) ∧ w'.cell? ⟨bx, 2, none⟩ = some (.int .i64 n) ∧ w'.cell? ⟨bx, 3, none⟩ = some (.int .u64 (at' : Nat)) ∧ w'.cell? ⟨bx, 4, none⟩ = some (.slice ad data.length c)) := Lib.hid fun w' h => by
    subst hA
    exact ⟨h.cells 0, h.cells 1, h.cells 2, h.cells 3, h.cells 4⟩
  have HE : Hid (∀ w', Holds E w' A → Below w.heap.size w w') := Lib.hid fun w' h => by subst hA; exact HBL.out _ _ h.drop
  have HTA : Hid (∀ w', Holds E w' A → Tab w') := Lib.hid fun w' h => hT.below (HE.out _ h)
  have HBA : Hid (∀ w', Holds E w' A → Brj w') := Lib.hid fun w' h => hB.below (HE.out _ h)
  have CW : Hid (∀ w', Holds E w' A → Calls Tryd.prog 42 #[.int .i64 k] w' (Ret E ((Value.string ⟨List.toArray (nm)⟩)) A)) := Lib.hid fun w' h => purH h (hnm ▸ (show Calls Tryd.prog 42 #[.int .i64 k] w' (Pur w' ((Value.string ⟨List.toArray (names11.getD k.toNat [])⟩))) from by have := word_any (w := w') k.toNat (by omega); rwa [Int.toNat_of_nonneg (by omega)] at this))
  have CA : Hid (∀ w', Holds E w' A → Calls Tryd.prog 43 #[.int .u64 (at' : Nat)] w' (Ret E ((Value.string ⟨List.toArray ([48, 120] ++ hexD at')⟩)) A)) := Lib.hid fun w' h => purH h (address_any (HBA.out _ h) at' hat)
  rw [← hA] at H1
  have hnl : nm.length ≤ 10000 := by rw [← hnm]; exact names_len _
  have hal : ([48, 120] ++ hexD at' : List UInt8).length ≤ 10000 := by have := hexD_len 15 at' hat; simp; omega
  clear hA hT hB
  have HK : Hid (∀ w', Holds E w' A → w'.cell? ⟨bx, 3, none⟩ = some (.int .u64 (at' : Nat)) ∧ w'.cell? ⟨bx, 4, none⟩ = some (.slice ad data.length c)) := Lib.hid fun w' h => ⟨(HC.out _ h).2.2.2.1, (HC.out _ h).2.2.2.2⟩
  have C3 : Hid (∀ w', Holds E w' A → Calls Tryd.prog 15 #[.slice ad data.length c] w' (Ret E ((Value.string ⟨List.toArray (l3)⟩)) A)) := Lib.hid fun w' h => purH h (hl3 ▸ hc3 w' (HE.out _ h) (HTA.out _ h))
  generalize hla : [48, 120] ++ hexD at' = la at *
  have CL : Hid (∀ w', Holds E w' A → Calls Tryd.prog 19 #[.slice (some ⟨w'.heap.size, 0, none⟩) 3 3] (w'.alloc (.cells #[(Value.string ⟨List.toArray (nm)⟩), (Value.string ⟨List.toArray (la)⟩), (Value.string ⟨List.toArray (l3)⟩)] 9)) (Ret E ((Value.string ⟨List.toArray (lineL [nm, la, l3])⟩)) A)) := Lib.hid fun w' h =>
    (lineCells (w := w') [nm, la, l3] 3 rfl (by decide) (by intro x hx; simp at hx; rcases hx with rfl | rfl | rfl <;> assumption)).mono fun en w2 ⟨h1, h2⟩ => ⟨h1, h.ofBelow h2⟩
  generalize lineL [nm, la, l3] = ll at *
  clear hc3 hl3 hla hnm hal hlen3 hnl
  obtain ⟨hd0, hd1, hd2, hd3, hd4⟩ := HC.out _ H1
  rcases hk with rfl | rfl
  all_goals
    go_enter Tryd.func28, Tryd.ntmps28
    go_wp2_with fail
    refine (CW.out _ H1).mono ?_
    rintro e w1 ⟨rfl, H2⟩
    clear hc1 hd0 hd1 hd2 hd3 hd4
    obtain ⟨hd0, hd1, hd2, hd3, hd4⟩ := HC.out _ H2
    have HD := H2.drawn (w1.drawn + 1)
    go_wp2_with fail
    go_region_held3 (fun w' => w'.cell? ⟨bx, 3, none⟩ = some (.int .u64 (at' : Nat)) ∧ w'.cell? ⟨bx, 4, none⟩ = some (.slice ad data.length c))
      (first
        | exact (HK.out _ (by assumption))
        | exact (HK.out _ ((Holds.alloc (by assumption) _).drop)))
      (first
        | (go_at_call 43; refine (CA.out _ (by assumption)).mono ?_; rintro e w4 ⟨rfl, HN⟩)
        | (go_at_call 15; refine (C3.out _ (by assumption)).mono ?_; rintro e w4 ⟨rfl, HN⟩)
        | (go_at_call 19; refine (CL.out _ (by assumption)).mono ?_; rintro e w4 ⟨rfl, HN⟩))
    all_goals go_wp2
    all_goals go_ret
    all_goals exact ⟨rfl, HE.out _ HN⟩
set_option maxRecDepth 100000 in
set_option maxHeartbeats 4000000 in
theorem op_perm (hT : Tab w) (hB : Brj w) (k p n : Int) (at' : Nat) (hat : at' < 18446744073709551616) (ad : Option Addr) (c : Nat) (data : List UInt8) (nm : List UInt8) (hk0 : 0 ≤ k) (hk11 : k < 11) (hnm : names11.getD k.toNat [] = nm) (hk : k = 0 ∨ k = 2) (hc3 : ∀ w', Below w.heap.size w w' → Tab w' → Calls Tryd.prog 13 #[.int .i64 p] w' (Pur w' ((Value.string ⟨List.toArray (permW p)⟩)))) (l3 : List UInt8) (hl3 : permW p = l3) (hlen3 : l3.length ≤ 10000) : Calls Tryd.prog 28 #[opV k p n (at' : Nat) (.slice ad data.length c)] w (Pur w ((Value.string ⟨List.toArray (lineL [nm, [48, 120] ++ hexD at', l3])⟩))) := by
  unfold opV
  have H0 := Holds.start w
  generalize hE : (⟨w.os, w.output, w.tape⟩ : Env) = E at *
  have hbel : ∀ w' A, Holds E w' (base w :: A) → Below w.heap.size w w' := fun w' A h => by subst hE; exact h.below rfl rfl rfl
  have HBL := Lib.hid hbel
  clear hE hbel
  have HT := Lib.hid fun w' A (h : Holds E w' (base w :: A)) => hT.below (HBL.out _ _ h)
  have HB := Lib.hid fun w' A (h : Holds E w' (base w :: A)) => hB.below (HBL.out _ _ h)
  have H1 := H0.alloc (.cells #[.int .i64 k, .int .i64 p, .int .i64 n, .int .u64 (at' : Nat), .slice ad data.length c] 38)
  have hc1 := H1.cells
  obtain ⟨bx, hbx⟩ : ∃ bx, w.heap.size = bx := ⟨_, rfl⟩
  rw [hbx] at H1 hc1
  have HBX := Lib.hid hbx
  obtain ⟨A, hA⟩ : ∃ A, A = [pts bx (.cells #[.int .i64 k, .int .i64 p, .int .i64 n, .int .u64 (at' : Nat), .slice ad data.length c] 38 (0, 0)), base w] := ⟨_, rfl⟩
  have HC : Hid (∀ w', Holds E w' A → w'.cell? ⟨bx, 0, none⟩ = some (.int .i64 k) ∧ w'.cell? ⟨bx, 1, none⟩ = some (.int .i64 p) ∧ w'.cell? ⟨bx, 2, none⟩ = some (.int .i64 n) ∧ w'.cell? ⟨bx, 3, none⟩ = some (.int .u64 (at' : Nat)) ∧ w'.cell? ⟨bx, 4, none⟩ = some (.slice ad data.length c)) := Lib.hid fun w' h => by
    subst hA
    exact ⟨h.cells 0, h.cells 1, h.cells 2, h.cells 3, h.cells 4⟩
  have HE : Hid (∀ w', Holds E w' A → Below w.heap.size w w') := Lib.hid fun w' h => by subst hA; exact HBL.out _ _ h.drop
  have HTA : Hid (∀ w', Holds E w' A → Tab w') := Lib.hid fun w' h => hT.below (HE.out _ h)
  have HBA : Hid (∀ w', Holds E w' A → Brj w') := Lib.hid fun w' h => hB.below (HE.out _ h)
  have CW : Hid (∀ w', Holds E w' A → Calls Tryd.prog 42 #[.int .i64 k] w' (Ret E ((Value.string ⟨List.toArray (nm)⟩)) A)) := Lib.hid fun w' h => purH h (hnm ▸ (show Calls Tryd.prog 42 #[.int .i64 k] w' (Pur w' ((Value.string ⟨List.toArray (names11.getD k.toNat [])⟩))) from by have := word_any (w := w') k.toNat (by omega); rwa [Int.toNat_of_nonneg (by omega)] at this))
  have CA : Hid (∀ w', Holds E w' A → Calls Tryd.prog 43 #[.int .u64 (at' : Nat)] w' (Ret E ((Value.string ⟨List.toArray ([48, 120] ++ hexD at')⟩)) A)) := Lib.hid fun w' h => purH h (address_any (HBA.out _ h) at' hat)
  rw [← hA] at H1
  have hnl : nm.length ≤ 10000 := by rw [← hnm]; exact names_len _
  have hal : ([48, 120] ++ hexD at' : List UInt8).length ≤ 10000 := by have := hexD_len 15 at' hat; simp; omega
  clear hA hT hB
  have HK : Hid (∀ w', Holds E w' A → w'.cell? ⟨bx, 3, none⟩ = some (.int .u64 (at' : Nat)) ∧ w'.cell? ⟨bx, 1, none⟩ = some (.int .i64 p)) := Lib.hid fun w' h => ⟨(HC.out _ h).2.2.2.1, (HC.out _ h).2.1⟩
  have C3 : Hid (∀ w', Holds E w' A → Calls Tryd.prog 13 #[.int .i64 p] w' (Ret E ((Value.string ⟨List.toArray (l3)⟩)) A)) := Lib.hid fun w' h => purH h (hl3 ▸ hc3 w' (HE.out _ h) (HTA.out _ h))
  generalize hla : [48, 120] ++ hexD at' = la at *
  have CL : Hid (∀ w', Holds E w' A → Calls Tryd.prog 19 #[.slice (some ⟨w'.heap.size, 0, none⟩) 3 3] (w'.alloc (.cells #[(Value.string ⟨List.toArray (nm)⟩), (Value.string ⟨List.toArray (la)⟩), (Value.string ⟨List.toArray (l3)⟩)] 9)) (Ret E ((Value.string ⟨List.toArray (lineL [nm, la, l3])⟩)) A)) := Lib.hid fun w' h =>
    (lineCells (w := w') [nm, la, l3] 3 rfl (by decide) (by intro x hx; simp at hx; rcases hx with rfl | rfl | rfl <;> assumption)).mono fun en w2 ⟨h1, h2⟩ => ⟨h1, h.ofBelow h2⟩
  generalize lineL [nm, la, l3] = ll at *
  clear hc3 hl3 hla hnm hal hlen3 hnl
  obtain ⟨hd0, hd1, hd2, hd3, hd4⟩ := HC.out _ H1
  rcases hk with rfl | rfl
  all_goals
    go_enter Tryd.func28, Tryd.ntmps28
    go_wp2_with fail
    refine (CW.out _ H1).mono ?_
    rintro e w1 ⟨rfl, H2⟩
    clear hc1 hd0 hd1 hd2 hd3 hd4
    obtain ⟨hd0, hd1, hd2, hd3, hd4⟩ := HC.out _ H2
    have HD := H2.drawn (w1.drawn + 1)
    go_wp2_with fail
    go_region_held3 (fun w' => w'.cell? ⟨bx, 3, none⟩ = some (.int .u64 (at' : Nat)) ∧ w'.cell? ⟨bx, 1, none⟩ = some (.int .i64 p))
      (first
        | exact (HK.out _ (by assumption))
        | exact (HK.out _ ((Holds.alloc (by assumption) _).drop)))
      (first
        | (go_at_call 43; refine (CA.out _ (by assumption)).mono ?_; rintro e w4 ⟨rfl, HN⟩)
        | (go_at_call 13; refine (C3.out _ (by assumption)).mono ?_; rintro e w4 ⟨rfl, HN⟩)
        | (go_at_call 19; refine (CL.out _ (by assumption)).mono ?_; rintro e w4 ⟨rfl, HN⟩))
    all_goals go_wp2
    all_goals go_ret
    all_goals exact ⟨rfl, HE.out _ HN⟩

set_option maxRecDepth 100000 in
set_option maxHeartbeats 4000000 in
theorem op_addr (hT : Tab w) (hB : Brj w) (k p n : Int) (at' : Nat) (hat : at' < 18446744073709551616) (ad : Option Addr) (c : Nat) (data : List UInt8) (nm : List UInt8) (hk0 : 0 ≤ k) (hk11 : k < 11) (hnm : names11.getD k.toNat [] = nm) (hk : k = 1) : Calls Tryd.prog 28 #[opV k p n (at' : Nat) (.slice ad data.length c)] w (Pur w ((Value.string ⟨List.toArray (lineL [nm, [48, 120] ++ hexD at'])⟩))) := by
  unfold opV
  have H0 := Holds.start w
  generalize hE : (⟨w.os, w.output, w.tape⟩ : Env) = E at *
  have hbel : ∀ w' A, Holds E w' (base w :: A) → Below w.heap.size w w' := fun w' A h => by subst hE; exact h.below rfl rfl rfl
  have HBL := Lib.hid hbel
  clear hE hbel
  have HT := Lib.hid fun w' A (h : Holds E w' (base w :: A)) => hT.below (HBL.out _ _ h)
  have HB := Lib.hid fun w' A (h : Holds E w' (base w :: A)) => hB.below (HBL.out _ _ h)
  have H1 := H0.alloc (.cells #[.int .i64 k, .int .i64 p, .int .i64 n, .int .u64 (at' : Nat), .slice ad data.length c] 38)
  have hc1 := H1.cells
  obtain ⟨bx, hbx⟩ : ∃ bx, w.heap.size = bx := ⟨_, rfl⟩
  rw [hbx] at H1 hc1
  have HBX := Lib.hid hbx
  obtain ⟨A, hA⟩ : ∃ A, A = [pts bx (.cells #[.int .i64 k, .int .i64 p, .int .i64 n, .int .u64 (at' : Nat), .slice ad data.length c] 38 (0, 0)), base w] := ⟨_, rfl⟩
  have HC : Hid (∀ w', Holds E w' A → w'.cell? ⟨bx, 0, none⟩ = some (.int .i64 k) ∧ w'.cell? ⟨bx, 1, none⟩ = some (.int .i64 p) ∧ w'.cell? ⟨bx, 2, none⟩ = some (.int .i64 n) ∧ w'.cell? ⟨bx, 3, none⟩ = some (.int .u64 (at' : Nat)) ∧ w'.cell? ⟨bx, 4, none⟩ = some (.slice ad data.length c)) := Lib.hid fun w' h => by
    subst hA
    exact ⟨h.cells 0, h.cells 1, h.cells 2, h.cells 3, h.cells 4⟩
  have HE : Hid (∀ w', Holds E w' A → Below w.heap.size w w') := Lib.hid fun w' h => by subst hA; exact HBL.out _ _ h.drop
  have HTA : Hid (∀ w', Holds E w' A → Tab w') := Lib.hid fun w' h => hT.below (HE.out _ h)
  have HBA : Hid (∀ w', Holds E w' A → Brj w') := Lib.hid fun w' h => hB.below (HE.out _ h)
  have CW : Hid (∀ w', Holds E w' A → Calls Tryd.prog 42 #[.int .i64 k] w' (Ret E ((Value.string ⟨List.toArray (nm)⟩)) A)) := Lib.hid fun w' h => purH h (hnm ▸ (show Calls Tryd.prog 42 #[.int .i64 k] w' (Pur w' ((Value.string ⟨List.toArray (names11.getD k.toNat [])⟩))) from by have := word_any (w := w') k.toNat (by omega); rwa [Int.toNat_of_nonneg (by omega)] at this))
  have CA : Hid (∀ w', Holds E w' A → Calls Tryd.prog 43 #[.int .u64 (at' : Nat)] w' (Ret E ((Value.string ⟨List.toArray ([48, 120] ++ hexD at')⟩)) A)) := Lib.hid fun w' h => purH h (address_any (HBA.out _ h) at' hat)
  rw [← hA] at H1
  have hnl : nm.length ≤ 10000 := by rw [← hnm]; exact names_len _
  have hal : ([48, 120] ++ hexD at' : List UInt8).length ≤ 10000 := by have := hexD_len 15 at' hat; simp; omega
  clear hA hT hB
  generalize hla : [48, 120] ++ hexD at' = la at *
  have CL : Hid (∀ w', Holds E w' A → Calls Tryd.prog 19 #[.slice (some ⟨w'.heap.size, 0, none⟩) 2 2] (w'.alloc (.cells #[(Value.string ⟨List.toArray (nm)⟩), (Value.string ⟨List.toArray (la)⟩)] 9)) (Ret E ((Value.string ⟨List.toArray (lineL [nm, la])⟩)) A)) := Lib.hid fun w' h =>
    (lineCells (w := w') [nm, la] 2 rfl (by decide) (by intro x hx; simp at hx; rcases hx with rfl | rfl <;> assumption)).mono fun en w2 ⟨h1, h2⟩ => ⟨h1, h.ofBelow h2⟩
  generalize lineL [nm, la] = ll at *
  clear hla hnm hal hnl
  obtain ⟨hd0, hd1, hd2, hd3, hd4⟩ := HC.out _ H1
  subst hk
  go_enter Tryd.func28, Tryd.ntmps28
  go_wp2_with fail
  refine (CW.out _ H1).mono ?_
  rintro e w1 ⟨rfl, H2⟩
  clear hc1 hd0 hd1 hd2 hd3 hd4
  obtain ⟨hd0, hd1, hd2, hd3, hd4⟩ := HC.out _ H2
  go_wp2_with fail
  refine (CA.out _ H2).mono ?_
  rintro e w2 ⟨rfl, H3⟩
  clear hd0 hd1 hd2 hd3 hd4
  go_wp2_with fail
  refine (CL.out _ H3).mono ?_
  rintro e w3 ⟨rfl, H4⟩
  go_wp2
  go_ret
  exact ⟨rfl, HE.out _ H4⟩

set_option maxRecDepth 100000 in
set_option maxHeartbeats 4000000 in
theorem op_word (hT : Tab w) (hB : Brj w) (k p n : Int) (at' : Nat) (hat : at' < 18446744073709551616) (ad : Option Addr) (c : Nat) (data : List UInt8) (nm : List UInt8) (hk0 : 0 ≤ k) (hk11 : k < 11) (hnm : names11.getD k.toNat [] = nm) (hk : k = 7 ∨ k = 9) : Calls Tryd.prog 28 #[opV k p n (at' : Nat) (.slice ad data.length c)] w (Pur w ((Value.string ⟨List.toArray (lineL [nm])⟩))) := by
  unfold opV
  have H0 := Holds.start w
  generalize hE : (⟨w.os, w.output, w.tape⟩ : Env) = E at *
  have hbel : ∀ w' A, Holds E w' (base w :: A) → Below w.heap.size w w' := fun w' A h => by subst hE; exact h.below rfl rfl rfl
  have HBL := Lib.hid hbel
  clear hE hbel
  have HT := Lib.hid fun w' A (h : Holds E w' (base w :: A)) => hT.below (HBL.out _ _ h)
  have HB := Lib.hid fun w' A (h : Holds E w' (base w :: A)) => hB.below (HBL.out _ _ h)
  have H1 := H0.alloc (.cells #[.int .i64 k, .int .i64 p, .int .i64 n, .int .u64 (at' : Nat), .slice ad data.length c] 38)
  have hc1 := H1.cells
  obtain ⟨bx, hbx⟩ : ∃ bx, w.heap.size = bx := ⟨_, rfl⟩
  rw [hbx] at H1 hc1
  have HBX := Lib.hid hbx
  obtain ⟨A, hA⟩ : ∃ A, A = [pts bx (.cells #[.int .i64 k, .int .i64 p, .int .i64 n, .int .u64 (at' : Nat), .slice ad data.length c] 38 (0, 0)), base w] := ⟨_, rfl⟩
  have HC : Hid (∀ w', Holds E w' A → w'.cell? ⟨bx, 0, none⟩ = some (.int .i64 k) ∧ w'.cell? ⟨bx, 1, none⟩ = some (.int .i64 p) ∧ w'.cell? ⟨bx, 2, none⟩ = some (.int .i64 n) ∧ w'.cell? ⟨bx, 3, none⟩ = some (.int .u64 (at' : Nat)) ∧ w'.cell? ⟨bx, 4, none⟩ = some (.slice ad data.length c)) := Lib.hid fun w' h => by
    subst hA
    exact ⟨h.cells 0, h.cells 1, h.cells 2, h.cells 3, h.cells 4⟩
  have HE : Hid (∀ w', Holds E w' A → Below w.heap.size w w') := Lib.hid fun w' h => by subst hA; exact HBL.out _ _ h.drop
  have HTA : Hid (∀ w', Holds E w' A → Tab w') := Lib.hid fun w' h => hT.below (HE.out _ h)
  have HBA : Hid (∀ w', Holds E w' A → Brj w') := Lib.hid fun w' h => hB.below (HE.out _ h)
  have CW : Hid (∀ w', Holds E w' A → Calls Tryd.prog 42 #[.int .i64 k] w' (Ret E ((Value.string ⟨List.toArray (nm)⟩)) A)) := Lib.hid fun w' h => purH h (hnm ▸ (show Calls Tryd.prog 42 #[.int .i64 k] w' (Pur w' ((Value.string ⟨List.toArray (names11.getD k.toNat [])⟩))) from by have := word_any (w := w') k.toNat (by omega); rwa [Int.toNat_of_nonneg (by omega)] at this))
  have CA : Hid (∀ w', Holds E w' A → Calls Tryd.prog 43 #[.int .u64 (at' : Nat)] w' (Ret E ((Value.string ⟨List.toArray ([48, 120] ++ hexD at')⟩)) A)) := Lib.hid fun w' h => purH h (address_any (HBA.out _ h) at' hat)
  rw [← hA] at H1
  have hnl : nm.length ≤ 10000 := by rw [← hnm]; exact names_len _
  have hal : ([48, 120] ++ hexD at' : List UInt8).length ≤ 10000 := by have := hexD_len 15 at' hat; simp; omega
  clear hA hT hB
  have CL : Hid (∀ w', Holds E w' A → Calls Tryd.prog 19 #[.slice (some ⟨w'.heap.size, 0, none⟩) 1 1] (w'.alloc (.cells #[(Value.string ⟨List.toArray (nm)⟩)] 9)) (Ret E ((Value.string ⟨List.toArray (lineL [nm])⟩)) A)) := Lib.hid fun w' h =>
    (lineCells (w := w') [nm] 1 rfl (by decide) (by intro x hx; simp at hx; rcases hx with rfl; assumption)).mono fun en w2 ⟨h1, h2⟩ => ⟨h1, h.ofBelow h2⟩
  generalize lineL [nm] = ll at *
  clear hnm hal hnl
  obtain ⟨hd0, hd1, hd2, hd3, hd4⟩ := HC.out _ H1
  rcases hk with rfl | rfl
  all_goals
    go_enter Tryd.func28, Tryd.ntmps28
    go_wp2_with fail
    refine (CW.out _ H1).mono ?_
    rintro e w1 ⟨rfl, H2⟩
    clear hc1 hd0 hd1 hd2 hd3 hd4
    obtain ⟨hd0, hd1, hd2, hd3, hd4⟩ := HC.out _ H2
    go_wp2_with fail
    refine (CL.out _ H2).mono ?_
    rintro e w3 ⟨rfl, H4⟩
    go_wp2
    go_ret
    exact ⟨rfl, HE.out _ H4⟩

set_option maxRecDepth 100000 in
set_option maxHeartbeats 4000000 in
theorem op_wnum (hT : Tab w) (hB : Brj w) (k p n : Int) (at' : Nat) (hat : at' < 18446744073709551616) (ad : Option Addr) (c : Nat) (data : List UInt8) (nm : List UInt8) (hk0 : 0 ≤ k) (hk11 : k < 11) (hnm : names11.getD k.toNat [] = nm) (hk : k = 6 ∨ k = 8 ∨ k = 10) (h0 : 0 ≤ n) (h255 : n ≤ 255) : Calls Tryd.prog 28 #[opV k p n (at' : Nat) (.slice ad data.length c)] w (Pur w ((Value.string ⟨List.toArray (lineL [nm, Lib.itoa n])⟩))) := by
  unfold opV
  have H0 := Holds.start w
  generalize hE : (⟨w.os, w.output, w.tape⟩ : Env) = E at *
  have hbel : ∀ w' A, Holds E w' (base w :: A) → Below w.heap.size w w' := fun w' A h => by subst hE; exact h.below rfl rfl rfl
  have HBL := Lib.hid hbel
  clear hE hbel
  have HT := Lib.hid fun w' A (h : Holds E w' (base w :: A)) => hT.below (HBL.out _ _ h)
  have HB := Lib.hid fun w' A (h : Holds E w' (base w :: A)) => hB.below (HBL.out _ _ h)
  have H1 := H0.alloc (.cells #[.int .i64 k, .int .i64 p, .int .i64 n, .int .u64 (at' : Nat), .slice ad data.length c] 38)
  have hc1 := H1.cells
  obtain ⟨bx, hbx⟩ : ∃ bx, w.heap.size = bx := ⟨_, rfl⟩
  rw [hbx] at H1 hc1
  have HBX := Lib.hid hbx
  obtain ⟨A, hA⟩ : ∃ A, A = [pts bx (.cells #[.int .i64 k, .int .i64 p, .int .i64 n, .int .u64 (at' : Nat), .slice ad data.length c] 38 (0, 0)), base w] := ⟨_, rfl⟩
  have HC : Hid (∀ w', Holds E w' A → w'.cell? ⟨bx, 0, none⟩ = some (.int .i64 k) ∧ w'.cell? ⟨bx, 1, none⟩ = some (.int .i64 p) ∧ w'.cell? ⟨bx, 2, none⟩ = some (.int .i64 n) ∧ w'.cell? ⟨bx, 3, none⟩ = some (.int .u64 (at' : Nat)) ∧ w'.cell? ⟨bx, 4, none⟩ = some (.slice ad data.length c)) := Lib.hid fun w' h => by
    subst hA
    exact ⟨h.cells 0, h.cells 1, h.cells 2, h.cells 3, h.cells 4⟩
  have HE : Hid (∀ w', Holds E w' A → Below w.heap.size w w') := Lib.hid fun w' h => by subst hA; exact HBL.out _ _ h.drop
  have HTA : Hid (∀ w', Holds E w' A → Tab w') := Lib.hid fun w' h => hT.below (HE.out _ h)
  have HBA : Hid (∀ w', Holds E w' A → Brj w') := Lib.hid fun w' h => hB.below (HE.out _ h)
  have CW : Hid (∀ w', Holds E w' A → Calls Tryd.prog 42 #[.int .i64 k] w' (Ret E ((Value.string ⟨List.toArray (nm)⟩)) A)) := Lib.hid fun w' h => purH h (hnm ▸ (show Calls Tryd.prog 42 #[.int .i64 k] w' (Pur w' ((Value.string ⟨List.toArray (names11.getD k.toNat [])⟩))) from by have := word_any (w := w') k.toNat (by omega); rwa [Int.toNat_of_nonneg (by omega)] at this))
  have CA : Hid (∀ w', Holds E w' A → Calls Tryd.prog 43 #[.int .u64 (at' : Nat)] w' (Ret E ((Value.string ⟨List.toArray ([48, 120] ++ hexD at')⟩)) A)) := Lib.hid fun w' h => purH h (address_any (HBA.out _ h) at' hat)
  rw [← hA] at H1
  have hnl : nm.length ≤ 10000 := by rw [← hnm]; exact names_len _
  have hal : ([48, 120] ++ hexD at' : List UInt8).length ≤ 10000 := by have := hexD_len 15 at' hat; simp; omega
  clear hA hT hB
  have hil := itoa_len h0 h255
  have CN : Hid (∀ w', Holds E w' A → Calls Tryd.prog 20 #[.int .i64 n] w' (Ret E ((Value.string ⟨List.toArray (Lib.itoa n)⟩)) A)) := Lib.hid fun w' h => purH h (number_any (HTA.out _ h) n (by omega) (by omega))
  have CL : Hid (∀ w', Holds E w' A → Calls Tryd.prog 19 #[.slice (some ⟨w'.heap.size, 0, none⟩) 2 2] (w'.alloc (.cells #[(Value.string ⟨List.toArray (nm)⟩), (Value.string ⟨List.toArray (Lib.itoa n)⟩)] 9)) (Ret E ((Value.string ⟨List.toArray (lineL [nm, Lib.itoa n])⟩)) A)) := Lib.hid fun w' h =>
    (lineCells (w := w') [nm, Lib.itoa n] 2 rfl (by decide) (by intro x hx; simp at hx; rcases hx with rfl | rfl; assumption; omega)).mono fun en w2 ⟨h1, h2⟩ => ⟨h1, h.ofBelow h2⟩
  generalize lineL [nm, Lib.itoa n] = ll at *
  generalize Lib.itoa n = la at *
  clear hnm hal hnl hil
  obtain ⟨hd0, hd1, hd2, hd3, hd4⟩ := HC.out _ H1
  rcases hk with rfl | rfl | rfl
  all_goals
    go_enter Tryd.func28, Tryd.ntmps28
    go_wp2_with fail
    refine (CW.out _ H1).mono ?_
    rintro e w1 ⟨rfl, H2⟩
    clear hc1 hd0 hd1 hd2 hd3 hd4
    obtain ⟨hd0, hd1, hd2, hd3, hd4⟩ := HC.out _ H2
    go_wp2_with fail
    refine (CN.out _ H2).mono ?_
    rintro e w2 ⟨rfl, H3⟩
    clear hd0 hd1 hd2 hd3 hd4
    go_wp2_with fail
    refine (CL.out _ H3).mono ?_
    rintro e w3 ⟨rfl, H4⟩
    go_wp2
    go_ret
    exact ⟨rfl, HE.out _ H4⟩

/-- The line of an op that may be. -/
def opLine (o : OpS) : List UInt8 := lineL (opWords o)

theorem mayO_split {k p n a : Int} {m : Nat} (h : mayO k p n a m = true) : (0 ≤ k ∧ k < 11) ∧ ((fieldsB k).2.2.1 = true → 0 ≤ n ∧ n ≤ 255) ∧ m ≤ 255 := by
  unfold mayO inK withinB at h
  generalize fieldsB k = f at *
  obtain ⟨b1, b2, b3, b4⟩ := f
  simp at h ⊢
  obtain ⟨h1, h2, h3, h4, h5⟩ := h
  refine ⟨h1, ?_, ?_⟩
  · rintro rfl
    simp at h3
    omega
  · cases b4 <;> simp at h4 <;> omega

/-- text.op. -/
theorem op_any (hT : Tab w) (hB : Brj w) (o : OpS) (hat : 0 ≤ o.at' ∧ o.at' < 18446744073709551616) (v : Value) (hv : BytesR w v o.data) (hm : o.may = true) :
    Calls Tryd.prog 28 #[opV o.kind o.perm o.n o.at' v] w (Pur w ((Value.string ⟨List.toArray (opLine o)⟩))) := by
  obtain ⟨k, p, n, a, data⟩ := o
  obtain ⟨⟨hk0, hk1⟩, hn, hd⟩ := mayO_split hm
  obtain ⟨ad, c, rfl, hc⟩ := hv
  simp only at hat hk0 hk1 hn hd hc ⊢
  obtain ⟨at', rfl⟩ : ∃ x : Nat, a = x := ⟨a.toNat, by omega⟩
  have hat' : at' < 18446744073709551616 := by omega
  have hN : ∀ w', Below w.heap.size w w' → Tab w' → 0 ≤ n ∧ n ≤ 255 → Calls Tryd.prog 20 #[.int .i64 n] w' (Pur w' ((Value.string ⟨List.toArray (Lib.itoa n)⟩))) := fun w' _ ht h => number_any ht n (by omega) (by omega)
  have hP : ∀ w', Below w.heap.size w w' → Tab w' → Calls Tryd.prog 13 #[.int .i64 p] w' (Pur w' ((Value.string ⟨List.toArray (permW p)⟩))) := fun w' _ ht => perm_any ht p
  have hBy : ∀ w', Below w.heap.size w w' → Tab w' → Calls Tryd.prog 15 #[.slice ad data.length c] w' (Pur w' ((Value.string ⟨List.toArray (bytesL data)⟩))) := fun w' hb _ => bytes_any ad _ _ data rfl (by omega) (by
    intro j hj
    obtain ⟨b, o, h1, h2⟩ := hc j hj
    exact ⟨b, o, h1, by rw [← h2]; exact hb.cell (p := ⟨b, o + j, none⟩) (World.block_lt_of_cell? _ _ h2)⟩)
  have hbl : (bytesL data).length ≤ 10000 := by
    rw [bytesL_len]
    omega
  rcases (by omega : k = 0 ∨ k = 1 ∨ k = 2 ∨ k = 3 ∨ k = 4 ∨ k = 5 ∨ k = 6 ∨ k = 7 ∨ k = 8 ∨ k = 9 ∨ k = 10) with rfl | rfl | rfl | rfl | rfl | rfl | rfl | rfl | rfl | rfl | rfl
  · exact op_perm hT hB _ p n at' hat' ad c data _ hk0 hk1 rfl (.inl rfl) hP _ rfl (Nat.le_trans (perm_len p) (by decide))
  · exact op_addr hT hB _ p n at' hat' ad c data _ hk0 hk1 rfl rfl
  · exact op_perm hT hB _ p n at' hat' ad c data _ hk0 hk1 rfl (.inr rfl) hP _ rfl (Nat.le_trans (perm_len p) (by decide))
  · exact op_num hT hB _ p n at' hat' ad c data _ hk0 hk1 rfl (.inl rfl) (fun w' h1 h2 => hN w' h1 h2 (hn rfl)) _ rfl (Nat.le_trans (itoa_len (hn rfl).1 (hn rfl).2) (by decide))
  · exact op_bytes hT hB _ p n at' hat' ad c data _ hk0 hk1 rfl (.inl rfl) hBy _ rfl hbl
  · exact op_num hT hB _ p n at' hat' ad c data _ hk0 hk1 rfl (.inr rfl) (fun w' h1 h2 => hN w' h1 h2 (hn rfl)) _ rfl (Nat.le_trans (itoa_len (hn rfl).1 (hn rfl).2) (by decide))
  · exact op_wnum hT hB _ p n at' hat' ad c data _ hk0 hk1 rfl (.inl rfl) (hn rfl).1 (hn rfl).2
  · exact op_word hT hB _ p n at' hat' ad c data _ hk0 hk1 rfl (.inl rfl)
  · exact op_wnum hT hB _ p n at' hat' ad c data _ hk0 hk1 rfl (.inr (.inl rfl)) (hn rfl).1 (hn rfl).2
  · exact op_word hT hB _ p n at' hat' ad c data _ hk0 hk1 rfl (.inr rfl)
  · exact op_wnum hT hB _ p n at' hat' ad c data _ hk0 hk1 rfl (.inr (.inr rfl)) (hn rfl).1 (hn rfl).2
end
end Go.Proofs.YtiidfgomfmfaoaaDoor
