import Derived.Test.YtjbphdjheklhbaaGreatMg1
import Derived.Deep.RegionHeld3
import Derived.Deep.RegionLaw
import Derived.Test.YtjbphdjheklhbaaGreatMg0
/-
  Layer 37, the document's answer: Map, Protect.
-/
namespace Go.Proofs.YtjbphdjheklhbaaGreat
open Go.RowKit

section
variable {e : Env} {w : World} {R : List HP} {M : List Pg}
set_option maxRecDepth 100000 in
theorem ref37page (a : Nat) (ha : a < 18446744073709551616) : Calls Tryz.prog 59 #[.int .u64 a] w (Quiet w (.int .i64 (atE a))) := by
  have hc := fun w => ref30Canon (w := w) a ha
  by_cases h : canon a = true
  · rw [h] at hc
    obtain ⟨o, ho⟩ : ∃ o, a % 4096 = o := ⟨_, rfl⟩
    have i1 : (a : Int) % 4096 = (o : Int) := by omega
    have HE : Hid (atE a = if o = 0 then 0 else 1) := Lib.hid (by
      unfold atE offOf
      rw [if_neg (by rw [h]; decide), ho]
      split <;> simp_all)
    clear h ho
    by_cases h0 : o = 0
    · subst h0
      have i2 : (a : Int) % 4096 = 0 := by simpa using i1
      go_enter Tryz.func59, Tryz.ntmps59
      go_wp2_with fail
      refine (hc _).mono ?_
      rintro e w1 ⟨rfl, n1, rfl⟩
      go_wp2_with fail
      go_ret
      exact ⟨by rw [HE.out]; rfl, _, rfl⟩
    · have hne : ((o : Int) != 0) = true := by simpa using h0
      go_enter Tryz.func59, Tryz.ntmps59
      go_wp2_with fail
      refine (hc _).mono ?_
      rintro e w1 ⟨rfl, n1, rfl⟩
      go_wp2_with fail
      go_ret
      exact ⟨by rw [HE.out, if_neg h0]; rfl, _, rfl⟩
  · have h' : canon a = false := by simpa using h
    rw [h'] at hc
    have HE : Hid (atE a = 8) := Lib.hid (by unfold atE; rw [if_pos h'])
    clear h h'
    go_enter Tryz.func59, Tryz.ntmps59
    go_wp2_with fail
    refine (hc _).mono ?_
    rintro e w1 ⟨rfl, n1, rfl⟩
    go_wp2_with fail
    go_ret
    exact ⟨by rw [HE.out]; rfl, _, rfl⟩
set_option maxRecDepth 100000 in
theorem ref37may (p : Int) : Calls Tryz.prog 60 #[.int .i64 p] w (Quiet w (.bool (mayP p))) := by
  rcases mayP_cases p with ⟨rfl, h⟩ | ⟨rfl, h⟩ | ⟨rfl, h⟩ | ⟨rfl, h⟩ | ⟨rfl, h⟩ | ⟨h1, h3, h4, h5, h7, h⟩
  case inr.inr.inr.inr.inr =>
    rw [h]
    have d1 : (p == 1) = false := by simpa using h1
    have d3 : (p == 3) = false := by simpa using h3
    have d4 : (p == 4) = false := by simpa using h4
    have d5 : (p == 5) = false := by simpa using h5
    have d7 : (p == 7) = false := by simpa using h7
    clear h h1 h3 h4 h5 h7
    go_enter Tryz.func60, Tryz.ntmps60
    go_wp2_with fail
    go_ret
    exact ⟨rfl, 0, rfl⟩
  all_goals
    rw [h]
    clear h
    go_enter Tryz.func60, Tryz.ntmps60
    go_wp2_with fail
    go_ret
    exact ⟨by first | rfl | decide, 0, rfl⟩
def P7 (q p : Nat) (bs : List UInt8) : Pg := ⟨q, p, bs, 0, 0⟩
theorem refPut7 (hR : Rise M) (hl : M.length ≤ 100000) (q p : Nat) (bs : List UInt8) {v : Value} (H : Holds e w (refH v M :: R)) : Calls Tryz.prog 63 #[v, .agg #[.int .i64 q, .int .i64 p, .string (strB bs)]] w (RetEx e (fun v' : Value => v') (fun v' => refH v' (insPg M (P7 q p bs)) :: R)) :=
  (refPut hR hl v (fun _ h => refH.rd h) (P7 q p bs) H).mono fun _ _ ⟨v', h1, h2⟩ => ⟨v', h1, h2.d1⟩
theorem refAt7 (hR : Rise M) (hl : M.length ≤ 100000) (q : Nat) {v : Value} (H : Holds e w (refH v M :: R)) : Calls Tryz.prog 61 #[v, .int .i64 q] w (Ret e (.tuple #[.int .i64 (atI M q), .bool (fnd M q).isSome]) (refH v M :: R)) :=
  retQ (refAt hR (by omega) v (refH.rd H) q) H

set_option maxRecDepth 100000 in
set_option maxHeartbeats 1000000 in
theorem ref37Map (hR : Rise M) (hl : M.length ≤ 100000) (a : Nat) (ha : a < 18446744073709551616) (perm : Int) {v : Value} (H : Holds e w (refH v M :: R)) :
    Calls Tryz.prog 28 #[v, .int .u64 a, .int .i64 perm] w (RetEx e (fun v' : Value => .tuple #[v', .int .i64 (mapE M a perm)]) (fun v' => refH v' (mapP M a perm (0, 0)) :: R)) := by
  have CG := Lib.hid fun w' => ref37page (w := w') a ha
  obtain ⟨E, hE⟩ : ∃ E, mapE M a perm = E := ⟨_, rfl⟩
  have HE := Lib.hid hE
  rw [hE]
  unfold mapE at hE
  by_cases h1 : atE a ≠ 0
  · rw [if_pos h1] at hE
    rw [hE] at CG h1
    have HP : Hid (mapP M a perm (0, 0) = M) := Lib.hid (mapP_no (by rw [HE.out]; exact h1) _)
    have hEb : ((E : Int) != 0) = true := by simpa using h1
    clear hE h1
    go_enter Tryz.func28, Tryz.ntmps28
    go_wp2_with fail
    refine (CG.out _).mono ?_
    rintro en w1 ⟨rfl, n1, rfl⟩
    go_wp2_with fail
    go_ret2
    exact ⟨v, rfl, by rw [HP.out]; exact H.drewN _⟩
  · rw [if_neg h1] at hE
    have h10 : atE a = 0 := by omega
    rw [h10] at CG
    have CM := Lib.hid fun w' => ref37may (w := w') perm
    clear h1 h10
    by_cases h2 : mayP perm = false
    · rw [if_pos h2] at hE
      subst hE
      rw [h2] at CM
      have HP : Hid (mapP M a perm (0, 0) = M) := Lib.hid (mapP_no (by rw [HE.out]; decide) _)
      clear h2
      go_enter Tryz.func28, Tryz.ntmps28
      go_wp2_with fail
      refine (CG.out _).mono ?_
      rintro en w1 ⟨rfl, n1, rfl⟩
      go_wp2_with fail
      refine (CM.out _).mono ?_
      rintro en w1 ⟨rfl, n2, rfl⟩
      go_wp2_with fail
      go_ret2
      exact ⟨v, rfl, by rw [HP.out]; exact H.drewN _⟩
    · rw [if_neg h2] at hE
      have h3 : mayP perm = true := by simpa using h2
      have hpb := mayP_bd h3
      obtain ⟨p, rfl⟩ : ∃ p : Nat, perm = p := ⟨perm.toNat, by omega⟩
      rw [h3] at CM
      obtain ⟨q, hq⟩ : ∃ q, pgOf a = q := ⟨_, rfl⟩
      have CP : Hid (∀ w' X, Holds e w' X → Calls Tryz.prog 62 #[.int .u64 a] w' (Ret e (.int .i64 q) X)) := Lib.hid fun w' X h => retQ (hq ▸ ref30Page a ha) h
      have CA := Lib.hid fun w' (h : Holds e w' (refH v M :: R)) => refAt7 hR hl q h
      rw [hq] at hE
      obtain ⟨s, hs⟩ : ∃ s, (fnd M q).isSome = s := ⟨_, rfl⟩
      rw [hs] at hE CA
      obtain ⟨i, hi⟩ : ∃ i, atI M q = i := ⟨_, rfl⟩
      rw [hi] at CA
      clear h2 h3
      cases s with
      | true =>
        have hE7 : E = 7 := by simpa using hE.symm
        subst hE7
        have HP : Hid (mapP M a p (0, 0) = M) := Lib.hid (mapP_no (by rw [HE.out]; decide) _)
        clear hE hq hs hi
        go_enter Tryz.func28, Tryz.ntmps28
        go_wp2_with fail
        refine (CG.out _).mono ?_
        rintro en w1 ⟨rfl, n1, rfl⟩
        go_wp2_with fail
        refine (CM.out _).mono ?_
        rintro en w1 ⟨rfl, n2, rfl⟩
        go_wp2_with fail
        refine (CP.out _ _ (H.drewN _)).mono ?_
        rintro en w3 ⟨rfl, H3⟩
        go_wp2_with fail
        refine (CA.out _ H3).mono ?_
        rintro en w4 ⟨rfl, H4⟩
        go_wp2_with fail
        go_ret2
        exact ⟨v, rfl, by rw [HP.out]; exact H4⟩
      | false =>
        have hE0 : E = 0 := by simpa using hE.symm
        subst hE0
        have HP : Hid (mapP M a p (0, 0) = insPg M (P7 q p (List.replicate 4096 0))) := Lib.hid (by
          rw [mapP_yes HE.out]
          unfold newPg P7
          rw [hq, Int.toNat_natCast])
        obtain ⟨z, hz⟩ : ∃ z : List UInt8, List.replicate 4096 0 = z := ⟨_, rfl⟩
        have hzl : z.length = 4096 := by rw [← hz]; simp
        rw [hz] at HP
        obtain ⟨Z, hZ⟩ : ∃ Z, (u8v z).toArray = Z := ⟨_, rfl⟩
        have hmk : ∀ W, (Instr.makeSlice 23 (.int .i64 4096) (.int .i64 4096)).run Tryz.prog W = .ok (.slice (some ⟨W.heap.size, 0, none⟩) 4096 4096) (W.alloc (.cells Z 5)) := fun W => by
          rw [← hZ, ← hz]; exact mkB 4096 (by omega) W
        obtain ⟨sz, hsz⟩ : ∃ sz, strB z = sz := ⟨_, rfl⟩
        have HCV : Hid (∀ w' b X, Holds e w' (pts b (.cells Z 5 (0, 0)) :: X) → (convert 23 9 (.slice (some ⟨b, 0, none⟩) 4096 4096)).run Tryz.prog w' = .ok (.string sz) w') := Lib.hid fun w' b X h => by
          have hrd : RdB w' (.slice (some ⟨b, 0, none⟩) z.length 4096) z := by
            unfold RdB
            rw [hzl]
            refine ⟨by simp [hzl], .inr ⟨_, _, rfl, by omega, fun j u hj => ?_⟩⟩
            rw [Addr.add_at, Nat.zero_add, h.cells, ← hZ]
            simpa using hj
          have := convB hrd
          rw [hzl] at this
          rw [this, ← hsz]
          rfl
        have hcv : ∀ W : World, (convert 23 9 (.slice (some ⟨W.heap.size, 0, none⟩) 4096 4096)).run Tryz.prog (W.alloc (.cells Z 5)) = .ok (.string sz) (W.alloc (.cells Z 5)) := fun W => by
          have hrd : RdB (W.alloc (.cells Z 5)) (.slice (some ⟨W.heap.size, 0, none⟩) z.length 4096) z := by
            unfold RdB
            rw [hzl]
            refine ⟨by simp [hzl], .inr ⟨_, _, rfl, by omega, fun j u hj => ?_⟩⟩
            rw [Addr.add_at, Nat.zero_add, World.cell?_alloc_new, ← hZ]
            simpa using hj
          have := convB hrd
          rw [hzl] at this
          rw [this, ← hsz]
          rfl
        have CU : Hid (∀ w', Holds e w' (refH v M :: R) → Calls Tryz.prog 63 #[v, .agg #[.int .i64 q, .int .i64 p, .string sz]] w' (RetEx e (fun v' : Value => v') (fun v' => refH v' (insPg M (P7 q p z)) :: R))) := Lib.hid fun w' h => by
          rw [← hsz]; exact refPut7 hR hl q p z h
        clear hE hq hs hi hz hZ hsz hzl
        go_enter Tryz.func28, Tryz.ntmps28
        go_wp2_with fail
        refine (CG.out _).mono ?_
        rintro en w1 ⟨rfl, n1, rfl⟩
        go_wp2_with fail
        refine (CM.out _).mono ?_
        rintro en w1 ⟨rfl, n2, rfl⟩
        go_wp2_with fail
        refine (CP.out _ _ (H.drewN _)).mono ?_
        rintro en w3 ⟨rfl, H3⟩
        go_wp2_with fail
        refine (CA.out _ H3).mono ?_
        rintro en w4 ⟨rfl, H4⟩
        clear H3 H CG CM CA
        have H5 := H4.drew
        have hcvB := HCV.out _ w4.heap.size _ ((H4.alloc (.cells Z 5)).drew)
        go_wp2_with fail
        go_region_with
          (first
            | (go_at_call 62; refine (CP.out _ _ (by first | assumption | exact Holds.alloc (by assumption) _)).mono ?_; rintro en w6 ⟨rfl, HN⟩; first | have hcv2 := HCV.out _ w4.heap.size _ HN | skip)
            | (go_at_call 63; refine (CU.out _ (by first | exact Holds.drop HN | exact Holds.drop (Holds.alloc HN _) | exact Holds.drop (Holds.alloc (by assumption) _) | assumption)).mono ?_; rintro en w7 ⟨v7, rfl, H7⟩))
        all_goals
          clear H4 H5 HN
          go_wp2_with fail
          go_ret2
          exact ⟨v7, rfl, by rw [HP.out]; exact H7⟩
end
end Go.Proofs.YtjbphdjheklhbaaGreat

/-
  Layer 37, the document's answer: Protect, Check.
-/
namespace Go.Proofs.YtjbphdjheklhbaaGreat
open Go.RowKit

/-- What the document knows of a page. -/
def kk (x : Pg) : Nat × Nat × List UInt8 := (x.pg, x.perm, x.bs)
theorem rfC_kk {M M' : List Pg} (h : M.map kk = M'.map kk) : M.flatMap rfC = M'.flatMap rfC := by
  have e1 : ∀ M : List Pg, M.flatMap rfC = (M.map kk).flatMap fun p => [Value.int .i64 p.1, .int .i64 p.2.1, .string (strB p.2.2)] := fun M => by
    rw [List.flatMap_map]; rfl
  rw [e1 M, e1 M', h]
theorem refH_kk {M M' : List Pg} (h : M.map kk = M'.map kk) (v : Value) : refH v M = refH v M' := by
  unfold refH
  rw [rfC_kk h, show M.length = M'.length by have := congrArg List.length h; simpa using this]
theorem ins_self {M : List Pg} (hR : Rise M) {i : Nat} {x : Pg} (hx : M[i]? = some x) : insPg M x = M ∧ atI M x.pg = i := by
  have hp := List.pairwise_iff_getElem.1 hR
  obtain ⟨h1, h2⟩ := List.getElem?_eq_some_iff.1 hx
  obtain ⟨h3, h4⟩ := at_stop hR (q := x.pg) (k := i) (fun j y hj hy => by
    obtain ⟨g1, g2⟩ := List.getElem?_eq_some_iff.1 hy
    have := hp j i g1 h1 hj
    rw [g2, h2] at this
    exact this) hx (Nat.le_refl _)
  refine ⟨?_, h3⟩
  have h5 := ins_take hR x
  rw [h4, h3, decide_eq_true rfl, if_pos rfl] at h5
  rw [h5]
  exact ((split_at hx).1).symm
/-- A page replaced. -/
theorem ins_rep {M : List Pg} (hR : Rise M) {i : Nat} {x : Pg} (hx : M[i]? = some x) (X : Pg) (hX : X.pg = x.pg) (f : Pg → Pg) (hf : kk (f x) = kk X) (hfo : ∀ y, y.pg ≠ x.pg → kk (f y) = kk y) : (insPg M X).map kk = (M.map f).map kk := by
  have h1 := (ins_self hR hx).1
  conv => rhs; rw [← h1]
  unfold insPg
  rw [hX]
  simp only [List.map_append, List.map_cons, List.map_map]
  congr 1
  · apply List.map_congr_left
    intro y hy
    have : y.pg < x.pg := by simpa using (List.mem_filter.1 hy).2
    exact (hfo y (by omega)).symm
  · congr 1
    · exact hf.symm
    · apply List.map_congr_left
      intro y hy
      have : x.pg < y.pg := by simpa using (List.mem_filter.1 hy).2
      exact (hfo y (by omega)).symm

section
variable {e : Env} {w : World} {R : List HP} {M : List Pg}
/-- A page in hand: its cells. -/
theorem refH.page {v : Value} {i : Nat} {x : Pg} (hx : M[i]? = some x) (H : Holds e w (refH v M :: R)) : ∃ g o c, v = .slice (some ⟨g, o, none⟩) M.length c ∧ ∀ w', Holds e w' (refH v M :: R) → w'.cell? ⟨g, o + i * 3, none⟩ = some (.int .i64 x.pg) ∧ w'.cell? ⟨g, o + i * 3 + 1, none⟩ = some (.int .i64 x.perm) ∧ w'.cell? ⟨g, o + i * 3 + 2, none⟩ = some (.string (strB x.bs)) := by
  have hl := (List.getElem?_eq_some_iff.1 hx).1
  obtain ⟨ad, c, rfl⟩ := (row.reads H).shape
  obtain ⟨g, o, rfl, _⟩ := (row.reads H).at (by omega)
  refine ⟨g, o, c, rfl, fun w' h => ?_⟩
  obtain ⟨g2, o2, h2, rr⟩ := (row.reads h).at (by omega)
  cases h2
  exact ⟨rr _ _ (rfC_at hx 0 (by omega)), by rw [Nat.add_assoc]; exact rr _ _ (rfC_at hx 1 (by omega)), by rw [Nat.add_assoc]; exact rr _ _ (rfC_at hx 2 (by omega))⟩

set_option maxRecDepth 100000 in
set_option maxHeartbeats 1000000 in
theorem ref37Protect (hO : ModOk M) (hl : M.length ≤ 100000) (a : Nat) (ha : a < 18446744073709551616) (perm : Int) {v : Value} (H : Holds e w (refH v M :: R)) :
    Calls Tryz.prog 30 #[v, .int .u64 a, .int .i64 perm] w (RetEx e (fun v' : Value => .tuple #[v', .int .i64 (proE M a perm)]) (fun v' => refH v' (proP M a perm) :: R)) := by
  have hR : Rise M := hO.rise
  have CG := Lib.hid fun w' => ref37page (w := w') a ha
  obtain ⟨E, hE⟩ : ∃ E, proE M a perm = E := ⟨_, rfl⟩
  have HE := Lib.hid hE
  rw [hE]
  unfold proE at hE
  by_cases h1 : atE a ≠ 0
  · rw [if_pos h1] at hE
    rw [hE] at CG h1
    have HP : Hid (proP M a perm = M) := Lib.hid (proP_no (by rw [HE.out]; exact h1))
    have hEb : ((E : Int) != 0) = true := by simpa using h1
    clear hE h1
    go_enter Tryz.func30, Tryz.ntmps30
    go_wp2_with fail
    refine (CG.out _).mono ?_
    rintro en w1 ⟨rfl, n1, rfl⟩
    go_wp2_with fail
    go_ret2
    exact ⟨v, rfl, by rw [HP.out]; exact H.drewN _⟩
  · rw [if_neg h1] at hE
    have h10 : atE a = 0 := by omega
    rw [h10] at CG
    have CM := Lib.hid fun w' => ref37may (w := w') perm
    clear h1 h10
    by_cases h2 : mayP perm = false
    · rw [if_pos h2] at hE
      subst hE
      rw [h2] at CM
      have HP : Hid (proP M a perm = M) := Lib.hid (proP_no (by rw [HE.out]; decide))
      clear h2
      go_enter Tryz.func30, Tryz.ntmps30
      go_wp2_with fail
      refine (CG.out _).mono ?_
      rintro en w1 ⟨rfl, n1, rfl⟩
      go_wp2_with fail
      refine (CM.out _).mono ?_
      rintro en w1 ⟨rfl, n2, rfl⟩
      go_wp2_with fail
      go_ret2
      exact ⟨v, rfl, by rw [HP.out]; exact H.drewN _⟩
    · rw [if_neg h2] at hE
      have h3 : mayP perm = true := by simpa using h2
      have hpb := mayP_bd h3
      obtain ⟨p, rfl⟩ : ∃ p : Nat, perm = p := ⟨perm.toNat, by omega⟩
      rw [h3] at CM
      obtain ⟨q, hq⟩ : ∃ q, pgOf a = q := ⟨_, rfl⟩
      have CP : Hid (∀ w' X, Holds e w' X → Calls Tryz.prog 62 #[.int .u64 a] w' (Ret e (.int .i64 q) X)) := Lib.hid fun w' X h => retQ (hq ▸ ref30Page a ha) h
      have CA := Lib.hid fun w' (h : Holds e w' (refH v M :: R)) => refAt7 hR hl q h
      rw [hq] at hE
      clear h2 h3
      rcases hf : fnd M q with _ | x
      · rw [hf] at hE
        have hs : (fnd M q).isSome = false := by rw [hf]; rfl
        rw [hs] at CA
        obtain ⟨i, hi⟩ : ∃ i, atI M q = i := ⟨_, rfl⟩
        rw [hi] at CA
        have hE9 : E = 9 := by simpa using hE.symm
        subst hE9
        have HP : Hid (proP M a p = M) := Lib.hid (proP_no (by rw [HE.out]; decide))
        clear hE hq hs hi hf
        go_enter Tryz.func30, Tryz.ntmps30
        go_wp2_with fail
        refine (CG.out _).mono ?_
        rintro en w1 ⟨rfl, n1, rfl⟩
        go_wp2_with fail
        refine (CM.out _).mono ?_
        rintro en w1 ⟨rfl, n2, rfl⟩
        go_wp2_with fail
        refine (CP.out _ _ (H.drewN _)).mono ?_
        rintro en w3 ⟨rfl, H3⟩
        go_wp2_with fail
        refine (CA.out _ H3).mono ?_
        rintro en w4 ⟨rfl, H4⟩
        go_wp2_with fail
        go_ret2
        exact ⟨v, rfl, by rw [HP.out]; exact H4⟩
      · rw [hf] at hE
        have hs : (fnd M q).isSome = true := by rw [hf]; rfl
        rw [hs] at CA
        have hE0 : E = 0 := by simpa using hE.symm
        subst hE0
        obtain ⟨ix, hix, hxq⟩ := fnd_at hf
        have hat := (ins_self hR hix).2
        rw [hxq] at hat
        rw [hat] at CA
        have hixl := (List.getElem?_eq_some_iff.1 hix).1
        have HP : Hid (∀ v', refH v' (insPg M (P7 q p x.bs)) = refH v' (proP M a p)) := Lib.hid fun v' => by
          refine refH_kk ?_ v'
          rw [proP_yes HE.out, hq, Int.toNat_natCast]
          unfold setPerm
          refine ins_rep hR hix _ hxq.symm (fun y => if y.pg = q then { y with perm := p } else y) ?_ ?_
          · rw [if_pos hxq]; unfold kk P7; rw [hxq]
          · intro y hy; rw [if_neg (by rw [← hxq]; exact hy)]
        obtain ⟨g, o, c, rfl, hpg⟩ := refH.page hix H
        have HPG := Lib.hid hpg
        obtain ⟨sx, hsx⟩ : ∃ sx, strB x.bs = sx := ⟨_, rfl⟩
        have CU : Hid (∀ w', Holds e w' (refH (.slice (some ⟨g, o, none⟩) M.length c) M :: R) → Calls Tryz.prog 63 #[.slice (some ⟨g, o, none⟩) M.length c, .agg #[.int .i64 q, .int .i64 p, .string sx]] w' (RetEx e (fun v' : Value => v') (fun v' => refH v' (insPg M (P7 q p x.bs)) :: refH (.slice (some ⟨g, o, none⟩) M.length c) M :: R))) := Lib.hid fun w' h => by
          rw [← hsx]; exact refPut hR hl _ (fun _ h => refH.rd h) (P7 q p x.bs) h
        rw [hsx, hxq] at HPG
        generalize x.perm = xp at *
        have hixI : (ix : Int) < (M.length : Int) := by omega
        generalize hn : M.length = n at *
        clear hE hq hs hf hix hxq hat hpg hsx hO hR
        go_enter Tryz.func30, Tryz.ntmps30
        go_wp2_with fail
        refine (CG.out _).mono ?_
        rintro en w1 ⟨rfl, n1, rfl⟩
        go_wp2_with fail
        refine (CM.out _).mono ?_
        rintro en w1 ⟨rfl, n2, rfl⟩
        go_wp2_with fail
        refine (CP.out _ _ (H.drewN _)).mono ?_
        rintro en w3 ⟨rfl, H3⟩
        go_wp2_with fail
        refine (CA.out _ H3).mono ?_
        rintro en w4 ⟨rfl, H4⟩
        clear H3 H CG CM CA CP
        have H5 := H4.drew
        go_wp2_with fail
        go_region_held3 (fun w' => w'.cell? ⟨g, o + ix * 3, none⟩ = some (.int .i64 q) ∧ w'.cell? ⟨g, o + ix * 3 + 1, none⟩ = some (.int .i64 xp) ∧ w'.cell? ⟨g, o + ix * 3 + 2, none⟩ = some (.string sx))
          (first | exact HPG.out _ (by assumption) | exact HPG.out _ (Holds.drop (by assumption)))
          (first
            | (go_at_call 63; refine (CU.out _ (by assumption)).mono ?_; rintro en w7 ⟨v7, rfl, H7⟩))
        all_goals
          clear H4 H5
          go_wp2_with fail
          go_ret2
          refine ⟨v7, rfl, ?_⟩
          have h9 := HP.out v7
          show Holds e w7 (refH v7 (proP M a p) :: R)
          rw [← h9]
          exact H7.d1
end
end Go.Proofs.YtjbphdjheklhbaaGreat

/-
  Layer 37, the document's answer: Check, Read.
-/
namespace Go.Proofs.YtjbphdjheklhbaaGreat
open Go.RowKit

section
variable {e : Env} {w : World} {R : List HP} {M : List Pg}
set_option maxRecDepth 100000 in
set_option maxHeartbeats 1000000 in
theorem ref37Check (hO : ModOk M) (hl : M.length ≤ 100000) (a : Nat) (ha : a < 18446744073709551616) (n : Int) (hn0 : -9223372036854775808 ≤ n) (hn1 : n ≤ 9223372036854775807) (u : Nat) (hu : u = 1 ∨ u = 2 ∨ u = 4) {v : Value} (H : Holds e w (refH v M :: R)) :
    Calls Tryz.prog 64 #[v, .int .u64 a, .int .i64 n, .int .i64 u] w (Ret e (.int .i64 (chk M a n u)) (refH v M :: R)) := by
  by_cases hn : n < 1 ∨ 64 < n
  · have e1 : chk M a n u = 1 := by unfold chk; rw [if_pos hn]
    rw [e1]
    clear e1
    rcases hn with hn | hn
    · go_enter Tryz.func64, Tryz.ntmps64
      go_wp2_with fail
      go_ret
      exact ⟨rfl, H⟩
    · have hn' : 1 ≤ n := by omega
      go_enter Tryz.func64, Tryz.ntmps64
      go_wp2_with fail
      go_ret
      exact ⟨rfl, H⟩
  · obtain ⟨N, rfl⟩ : ∃ N : Nat, n = N := ⟨n.toNat, by omega⟩
    have hN : 1 ≤ N ∧ N ≤ 64 := by omega
    have e1 : chk M a N u = chkL M a u (List.range N) := by unfold chk; rw [if_neg hn, Int.toNat_natCast]
    rw [e1]
    clear e1 hn hn0 hn1
    obtain ⟨hN1, hN2⟩ := hN
    have CC := Lib.hid fun (b : Nat) (hb : b < 18446744073709551616) (w' : World) => ref30Canon (w := w') b hb
    have CP := Lib.hid fun (b : Nat) (hb : b < 18446744073709551616) (w' : World) => ref30Page (w := w') b hb
    have CA := Lib.hid fun q w' (h : Holds e w' (refH v M :: R)) => refAt7 hO.rise hl q h
    have HO := Lib.hid hO
    clear hO
    go_enter Tryz.func64, Tryz.ntmps64
    go_wp2_with fail
    go_loopw [9, 10, 11, 12] (fun i _ _ _ wr => ∃ k : Nat, k ≤ N ∧ i = .int .i64 (k : Nat) ∧ Hid (∀ j, j < k → chkAt M a u j = 0) ∧ Holds e wr (refH v M :: R)) (fun i _ _ _ _ => N - (Go.RowKit.intOf i).toNat)
    case atStart => exact ⟨0, by omega, rfl, Lib.hid (fun j hj => by omega), H⟩
    case round =>
      clear H
      obtain ⟨k, hk, rfl, hz, HX⟩ := hrel
      by_cases hlt : k < N
      · by_cases hov : 18446744073709551616 ≤ a + k
        · have hw : decide (IntKind.u64.wrap ((a : Int) + (k : Int)) < (a : Int)) = true := by rw [IntKind.wrap_u64]; simp; omega
          have HC : Hid (chkL M a u (List.range N) = 8) := Lib.hid (by
            have h8 : chkAt M a u k = 8 := by unfold chkAt; rw [if_pos hov]
            rw [chkL_stop hlt hz.out (by rw [h8]; decide), h8])
          clear hov hz
          go_wp2_with fail
          go_ret
          exact ⟨by rw [HC.out]; rfl, HX⟩
        · obtain ⟨b, hb⟩ : ∃ b, a + k = b := ⟨_, rfl⟩
          have hb64 : b < 18446744073709551616 := by omega
          have hab : (a : Int) + (k : Int) = (b : Int) := by omega
          have hw : decide ((b : Int) < (a : Int)) = false := by simp; omega
          have CCb := fun w' => CC.out b hb64 w'
          by_cases hcan : canon b = true
          · have HCA : Hid (chkAt M a u k = match fnd M (pgOf b) with | none => 9 | some x => if x.perm / u % 2 = 0 then 10 else 0) := Lib.hid (by
              unfold chkAt; rw [if_neg hov, hb, if_neg (by rw [hcan]; decide)]; rfl)
            rw [hcan] at CCb
            have CPb := Lib.hid fun w' => CP.out b hb64 w'
            obtain ⟨q, hq⟩ : ∃ q, pgOf b = q := ⟨_, rfl⟩
            rw [hq] at HCA CPb
            have CAq := Lib.hid (CA.out q)
            clear hov hcan hq hb
            rcases hf : fnd M q with _ | x
            · rw [hf] at HCA
              have hs : (fnd M q).isSome = false := by rw [hf]; rfl
              rw [hs] at CAq
              obtain ⟨i, hi⟩ : ∃ i, atI M q = i := ⟨_, rfl⟩
              rw [hi] at CAq
              have h9 : chkAt M a u k = 9 := HCA.out
              have HC : Hid (chkL M a u (List.range N) = 9) := Lib.hid (by
                rw [chkL_stop hlt hz.out (by rw [h9]; decide), h9])
              clear hz HCA h9 hi hs hf
              go_wp2_with fail
              refine (CCb _).mono ?_
              rintro en w1 ⟨rfl, n1, rfl⟩
              go_wp2_with fail
              refine (CPb.out _).mono ?_
              rintro en w1 ⟨rfl, n2, rfl⟩
              go_wp2_with fail
              refine (CAq.out _ (HX.drewN _)).mono ?_
              rintro en w4 ⟨rfl, H4⟩
              go_wp2_with fail
              go_ret
              exact ⟨by rw [HC.out]; rfl, H4⟩
            · rw [hf] at HCA
              have hs : (fnd M q).isSome = true := by rw [hf]; rfl
              rw [hs] at CAq
              obtain ⟨ix, hix, hxq⟩ := fnd_at hf
              have hat := (ins_self HO.out.rise hix).2
              rw [hxq] at hat
              rw [hat] at CAq
              have hixl := (List.getElem?_eq_some_iff.1 hix).1
              have hp7 := HO.out.perm x (List.mem_of_getElem? hix)
              obtain ⟨g, o, c, rfl, hpg⟩ := refH.page hix HX
              have HPG := Lib.hid hpg
              have h10 : chkAt M a u k = if x.perm / u % 2 = 0 then 10 else 0 := HCA.out
              have hixI : (ix : Int) < (M.length : Int) := by omega
              generalize hnM : M.length = nM at *
              obtain ⟨t1, ht1⟩ : ∃ t1, x.perm / u = t1 := ⟨_, rfl⟩
              rw [ht1] at h10
              have i1 : (x.perm : Int) / (u : Int) = (t1 : Int) := by rw [← ht1]; simp
              have t17 : t1 ≤ 7 := by rw [← ht1]; exact Nat.le_trans (Nat.div_le_self _ _) hp7
              have hu0 : (u : Int) ≠ 0 := by omega
              have hu0' : u ≠ 0 := by omega
              have htI : ((t1 : Int) % 2 == 0) = decide (t1 % 2 = 0) := by
                rw [Bool.eq_iff_iff]
                simp only [beq_iff_eq, decide_eq_true_eq]
                omega
              generalize x.perm = xp at *
              clear HCA hf hs hix hxq hat hpg ht1
              by_cases hbit : t1 % 2 = 0
              · rw [decide_eq_true hbit] at htI
                rw [if_pos hbit] at h10
                have HC : Hid (chkL M a u (List.range N) = 10) := Lib.hid (by
                  rw [chkL_stop hlt hz.out (by rw [h10]; decide), h10])
                clear hz h10 hbit
                go_wp2_with fail
                refine (CCb _).mono ?_
                rintro en w1 ⟨rfl, n1, rfl⟩
                go_wp2_with fail
                refine (CPb.out _).mono ?_
                rintro en w1 ⟨rfl, n2, rfl⟩
                go_wp2_with fail
                refine (CAq.out _ (HX.drewN _)).mono ?_
                rintro en w4 ⟨rfl, H4⟩
                have c4 := (HPG.out _ H4).2.1
                go_wp2_with fail
                go_ret
                exact ⟨by rw [HC.out]; rfl, H4⟩
              · rw [decide_eq_false hbit] at htI
                rw [if_neg hbit] at h10
                have HZ : Hid (∀ j, j < k + 1 → chkAt M a u j = 0) := Lib.hid fun j hj => by
                  rcases Nat.lt_succ_iff_lt_or_eq.1 hj with hj | rfl
                  · exact hz.out j hj
                  · exact h10
                clear hz h10 hbit
                go_wp2_with fail
                refine (CCb _).mono ?_
                rintro en w1 ⟨rfl, n1, rfl⟩
                go_wp2_with fail
                refine (CPb.out _).mono ?_
                rintro en w1 ⟨rfl, n2, rfl⟩
                go_wp2_with fail
                refine (CAq.out _ (HX.drewN _)).mono ?_
                rintro en w4 ⟨rfl, H4⟩
                have c4 := (HPG.out _ H4).2.1
                go_wp2_with fail
                go_roundw
                case rel => exact ⟨k + 1, by omega, by go_num, HZ, H4⟩
                case measure => simp [Go.RowKit.intOf]; omega
          · have HC : Hid (chkL M a u (List.range N) = 8) := Lib.hid (by
              have h8 : chkAt M a u k = 8 := by unfold chkAt; rw [if_neg hov, hb, if_pos (by simpa using hcan)]
              rw [chkL_stop hlt hz.out (by rw [h8]; decide), h8])
            rw [show canon b = false by simpa using hcan] at CCb
            clear hov hz hcan hb
            go_wp2_with fail
            refine (CCb _).mono ?_
            rintro en w1 ⟨rfl, n1, rfl⟩
            go_wp2_with fail
            go_ret
            exact ⟨by rw [HC.out]; rfl, HX.drewN _⟩
      · obtain rfl : k = N := by omega
        have HZ : Hid (chkL M a u (List.range k) = 0) := Lib.hid (chkL_zero.2 hz.out)
        clear hz
        go_wp2_with fail
        go_ret
        exact ⟨by rw [HZ.out]; rfl, HX⟩
end
end Go.Proofs.YtjbphdjheklhbaaGreat

/-
  Layer 37, the document's answer: Read.
-/
namespace Go.Proofs.YtjbphdjheklhbaaGreat
open Go.RowKit

theorem strB_index (l : List UInt8) (o : Nat) (h : o < l.length) (t : TypeId) (k : IntKind) (ht : Tryz.prog.underlying t = some .string) (w : World) : (Instr.index t (.string (strB l)) (.int k o)).run Tryz.prog w = .ok (.int .u8 ((l.getD o 0).toNat : Int)) w := by
  have e1 : (strB l)[o]? = some (l.getD o 0) := by
    have : o < (strB l).size := h
    rw [getElem?_pos _ o this]
    simp [strB, List.getD, h]
    rfl
  simp [Instr.index, run_underlying ht, asIntOf, e1]
section
variable {e : Env} {w : World} {R : List HP} {M : List Pg}
set_option maxRecDepth 100000 in
set_option maxHeartbeats 1000000 in
theorem ref37Read (hO : ModOk M) (hl : M.length ≤ 100000) (a : Nat) (ha : a < 18446744073709551616) (n : Int) (hn0 : -9223372036854775808 ≤ n) (hn1 : n ≤ 9223372036854775807) (u : Nat) (hu : u = 1 ∨ u = 2 ∨ u = 4) {v : Value} (H : Holds e w (refH v M :: R)) :
    Calls Tryz.prog 31 #[v, .int .u64 a, .int .i64 n, .int .i64 u] w (RetEx e (fun d : Value => .tuple #[d, .int .i64 (chk M a n u)]) (fun d => bts d (rdE M a n u) :: refH v M :: R)) := by
  have CC := Lib.hid (ref37Check hO hl a ha n hn0 hn1 u hu H)
  by_cases hE : chk M a n u = 0
  · obtain ⟨N, rfl, hN, hT, hrd⟩ : ∃ N : Nat, n = (N : Int) ∧ N ≤ 64 ∧ There M a N ∧ rdE M a n u = rdb M a N := by
      have h := hE
      unfold chk at h
      split at h
      · cases h
      · refine ⟨n.toNat, by omega, by omega, there_of_chk h, ?_⟩
        unfold rdE; rw [if_pos hE]
    rw [hE] at CC ⊢
    rw [hrd]
    have hmk := fun W => mkB N (by omega) W
    have CP := Lib.hid fun (b : Nat) (hb : b < 18446744073709551616) (w' : World) => ref30Page (w := w') b hb
    have CA := Lib.hid fun q X w' (h : Holds e w' (refH v M :: X)) => refAt7 hO.rise hl q h
    have HO := Lib.hid hO
    clear hO hE hrd
    go_enter Tryz.func31, Tryz.ntmps31
    go_wp2_with fail
    refine CC.out.mono ?_
    rintro en w1 ⟨rfl, H1⟩
    have H2 := H1.alloc (.cells (u8v (List.replicate N 0)).toArray 5)
    obtain ⟨ob, hob⟩ : ∃ ob, w1.heap.size = ob := ⟨_, rfl⟩
    rw [hob] at H2
    clear CC H
    go_wp2_with fail
    go_loopw [12, 13, 14, 15] (fun i _ _ _ wr => ∃ (k : Nat) (ys : List UInt8), k ≤ N ∧ i = .int .i64 (k : Nat) ∧ ys.length = N ∧ Hid (ys.take k = rdb M a k) ∧ Holds e wr (pts ob (.cells (u8v ys).toArray 5 (0, 0)) :: refH v M :: R)) (fun i _ _ _ _ => N - (Go.RowKit.intOf i).toNat)
    case atStart => exact ⟨0, List.replicate N 0, by omega, rfl, by simp, Lib.hid rfl, H2⟩
    case round =>
      clear H1 H2
      obtain ⟨k, ys, hk, rfl, hys, hz, HX⟩ := hrel
      by_cases hlt : k < N
      · obtain ⟨hb64, hsome⟩ := hT k hlt
        obtain ⟨x, hf⟩ := Option.isSome_iff_exists.1 hsome
        obtain ⟨b, hb⟩ : ∃ b, a + k = b := ⟨_, rfl⟩
        have HB : Hid (byteOf M (a + k) = x.bs.getD (offOf b) 0) := Lib.hid (by unfold byteOf; rw [hf, hb])
        rw [hb] at hb64 hf
        have hab : (a : Int) + (k : Int) = (b : Int) := by omega
        obtain ⟨ix, hix, hxq⟩ := fnd_at hf
        have hxl := HO.out.len x (List.mem_of_getElem? hix)
        have hat := (ins_self HO.out.rise hix).2
        have hixl := (List.getElem?_eq_some_iff.1 hix).1
        obtain ⟨q, hq⟩ : ∃ q, pgOf b = q := ⟨_, rfl⟩
        obtain ⟨o, ho⟩ : ∃ o, b % 4096 = o := ⟨_, rfl⟩
        have hol : o < 4096 := by omega
        have hoI : (b : Int) % 4096 = (o : Int) := by omega
        have hoe : offOf b = o := ho
        rw [hoe] at HB
        rw [hq] at hf hxq
        rw [hxq] at hat
        have CPb : Hid (∀ w' X, Holds e w' X → Calls Tryz.prog 62 #[.int .u64 b] w' (Ret e (.int .i64 q) X)) := Lib.hid fun w' X h => retQ (hq ▸ CP.out b hb64 w') h
        have CAq : Hid (∀ w' X, Holds e w' (X :: refH v M :: R) → Calls Tryz.prog 61 #[v, .int .i64 q] w' (Ret e (.tuple #[.int .i64 ix, .bool true]) (X :: refH v M :: R))) := Lib.hid fun w' X h => by
          have := CA.out q (X :: R) w' h.swap
          rw [hat, hf] at this
          exact retC this fun _ g => g.swap
        have hsidx := fun w => strB_index x.bs o (by omega) 9 .u64 (by kernel_rfl) w
        obtain ⟨sx, hsx⟩ : ∃ sx, strB x.bs = sx := ⟨_, rfl⟩
        obtain ⟨y, hy⟩ : ∃ y, x.bs.getD o 0 = y := ⟨_, rfl⟩
        rw [hsx, hy] at hsidx
        rw [hy] at HB
        have hyb := y.toNat_lt
        obtain ⟨g, oo, c, rfl, hpg⟩ := refH.page hix HX.drop
        have HPG : Hid (∀ w' X, Holds e w' (X :: refH (.slice (some ⟨g, oo, none⟩) M.length c) M :: R) → w'.cell? ⟨g, oo + ix * 3 + 2, none⟩ = some (.string sx)) := Lib.hid fun w' X h => by
          rw [← hsx]; exact (hpg w' h.drop).2.2
        have hc2 : ∃ v, wr.cell? ⟨ob, k, none⟩ = some v := ⟨_, (HX.cells k).trans (u8A_get (by omega))⟩
        have hixI : (ix : Int) < (M.length : Int) := by omega
        generalize hnM : M.length = nM at *
        clear hf hsome hb ho hoe hq hxq hat hpg hix hsx hy hxl hc2
        go_wp2_with fail
        refine (CPb.out _ _ HX).mono ?_
        rintro en w3 ⟨rfl, H3⟩
        go_wp2_with fail
        refine (CAq.out _ _ H3).mono ?_
        rintro en w4 ⟨rfl, H4⟩
        have c4 := HPG.out _ _ H4
        obtain ⟨v2, c2⟩ : ∃ v, w4.cell? ⟨ob, k, none⟩ = some v := ⟨_, (H4.cells k).trans (u8A_get (by omega))⟩
        have f2 := H4.frozen
        have H5 := H4.set k (.int .u8 (y.toNat : Int))
        rw [u8_set] at H5
        have HZ : Hid ((ys.set k y).take (k + 1) = rdb M a (k + 1)) := Lib.hid (by
          rw [rdb_succ, HB.out, ← hz.out, List.take_add_one, List.take_set_of_le (by omega), List.getElem?_set_self (by omega)]
          rfl)
        have HF := Lib.hid H5
        clear HX H3 H4 H5 hz
        go_wp2_with fail
        go_roundw
        case rel => exact ⟨k + 1, ys.set k y, by omega, by go_num, by simpa using hys, HZ, HF.out⟩
        case measure => simp [Go.RowKit.intOf]; omega
      · obtain rfl : k = N := by omega
        have HF : Hid (Holds e wr (bts (.slice (some ⟨ob, 0, none⟩) k k) (rdb M a k) :: refH v M :: R)) := Lib.hid (by
          have e1 : ys = rdb M a k := by rw [← hz.out, List.take_of_length_le (by omega)]
          rw [e1] at HX
          have := bts_made HX (by rw [rdb_length]; omega)
          rw [rdb_length] at this
          exact this)
        clear HX hz
        go_wp2_with fail
        go_ret2
        exact ⟨_, rfl, HF.out⟩
  · have HR : Hid (rdE M a n u = []) := Lib.hid (by unfold rdE; rw [if_neg hE])
    obtain ⟨E, hEE⟩ : ∃ E, chk M a n u = E := ⟨_, rfl⟩
    rw [hEE] at CC hE ⊢
    have hEb : ((E : Int) != 0) = true := by simpa using hE
    clear hEE
    go_enter Tryz.func31, Tryz.ntmps31
    go_wp2_with fail
    refine CC.out.mono ?_
    rintro en w1 ⟨rfl, H1⟩
    go_wp2_with fail
    go_ret2
    exact ⟨_, rfl, by rw [HR.out]; exact bts.nil H1⟩
end
end Go.Proofs.YtjbphdjheklhbaaGreat

/-
  Layer 37, the document's answer: Write.
-/
namespace Go.Proofs.YtjbphdjheklhbaaGreat
open Go.RowKit

theorem wrb_append (M : List Pg) (a : Nat) (l1 l2 : List UInt8) : wrb M a (l1 ++ l2) = wrb (wrb M a l1) (a + l1.length) l2 := by
  induction hn : l2.length generalizing l2 with
  | zero =>
    obtain rfl := List.eq_nil_of_length_eq_zero hn
    simp [wrb]
  | succ n ih =>
    have hne : l2 ≠ [] := by rintro rfl; simp at hn
    obtain ⟨l, v, rfl⟩ : ∃ l v, l2 = l ++ [v] := ⟨_, _, (List.dropLast_concat_getLast hne).symm⟩
    rw [← List.append_assoc, wrb_snoc, wrb_snoc, ih l (by simpa using hn), List.length_append, Nat.add_assoc]
theorem wrb_page {M : List Pg} (hO : ModOk M) {b o : Nat} (ho : b % 4096 = o) (c : List UInt8) (hc : o + c.length ≤ 4096) : wrb M b c = M.map fun y => if y.pg = pgOf b then { y with bs := y.bs.take o ++ c ++ y.bs.drop (o + c.length) } else y := by
  induction hn : c.length generalizing c with
  | zero =>
    obtain rfl := List.eq_nil_of_length_eq_zero hn
    have e0 : ∀ y : Pg, (if y.pg = pgOf b then { y with bs := y.bs.take o ++ [] ++ y.bs.drop (o + 0) } else y) = id y := by
      intro y
      rw [List.append_nil, Nat.add_zero, List.take_append_drop]
      split <;> rfl
    show M = M.map _
    exact ((List.map_congr_left (fun y _ => e0 y)).trans (List.map_id M)).symm
  | succ n ih =>
    have hne : c ≠ [] := by rintro rfl; simp at hn
    obtain ⟨l, v, rfl⟩ : ∃ l v, c = l ++ [v] := ⟨_, _, (List.dropLast_concat_getLast hne).symm⟩
    have hl : l.length = n := by simpa using hn
    rw [wrb_snoc, ih l (by simp at hc; omega) hl]
    unfold wrAt
    rw [List.map_map]
    apply List.map_congr_left
    intro y hy
    have hyl := hO.len y hy
    have e1 : pgOf (b + l.length) = pgOf b := by unfold pgOf; simp at hc; omega
    have e2 : offOf (b + l.length) = o + l.length := by unfold offOf; simp at hc; omega
    simp only [Function.comp]
    rw [e1, e2]
    by_cases hp : y.pg = pgOf b
    · simp only [hp, if_true]
      unfold Pg.put
      dsimp only
      congr 1
      simp only [List.length_append, List.length_singleton] at hc
      have hlt : o + l.length < y.bs.length := by omega
      have e3 : y.bs.drop (o + l.length) = y.bs.getD (o + l.length) 0 :: y.bs.drop (o + l.length + 1) := by
        rw [List.drop_eq_getElem_cons hlt]
        simp [List.getD, List.getElem?_eq_getElem hlt]
      rw [hl] at e3 ⊢
      rw [e3, List.set_append_right _ _ (by simp; omega)]
      have e4 : o + n - (y.bs.take o ++ l).length = 0 := by simp; omega
      rw [e4, List.set_cons_zero]
      try rw [show (l ++ [v]).length = n + 1 from hn]
      rw [← List.append_assoc (y.bs.take o) l [v], List.append_assoc _ [v]]
      rfl
    · simp only [hp, if_false]
theorem ModOk.wrb {M : List Pg} (h : ModOk M) (a : Nat) (l : List UInt8) : ModOk (Go.Proofs.YtjbphdjheklhbaaGreat.wrb M a l) := by
  induction hn : l.length generalizing l with
  | zero =>
    obtain rfl := List.eq_nil_of_length_eq_zero hn
    exact h
  | succ n ih =>
    have hne : l ≠ [] := by rintro rfl; simp at hn
    obtain ⟨l, v, rfl⟩ : ∃ l' v, l = l' ++ [v] := ⟨_, _, (List.dropLast_concat_getLast hne).symm⟩
    rw [wrb_snoc]
    exact (ih l (by simpa using hn)).wrAt _ _
theorem wrb_pgs (M : List Pg) (a : Nat) (l : List UInt8) : (wrb M a l).map Pg.pg = M.map Pg.pg := by
  induction hn : l.length generalizing l with
  | zero =>
    obtain rfl := List.eq_nil_of_length_eq_zero hn
    rfl
  | succ n ih =>
    have hne : l ≠ [] := by rintro rfl; simp at hn
    obtain ⟨l, v, rfl⟩ : ∃ l' v, l = l' ++ [v] := ⟨_, _, (List.dropLast_concat_getLast hne).symm⟩
    rw [wrb_snoc, ← ih l (by simpa using hn)]
    unfold wrAt
    rw [List.map_map]
    apply List.map_congr_left
    intro y _
    simp only [Function.comp]
    split <;> rfl
theorem fnd_pgs {M M' : List Pg} (h : M.map Pg.pg = M'.map Pg.pg) (q : Nat) : (fnd M q).isSome = (fnd M' q).isSome := by
  have e1 : ∀ M : List Pg, (fnd M q).isSome = (M.map Pg.pg).any (· == q) := fun M => by
    unfold fnd
    rw [List.any_map, Bool.eq_iff_iff, List.find?_isSome, List.any_eq_true]
    rfl
  rw [e1 M, e1 M', h]
theorem wrb_length (M : List Pg) (a : Nat) (l : List UInt8) : (wrb M a l).length = M.length := by
  have := congrArg List.length (wrb_pgs M a l)
  simpa using this
/-- A page's worth of bytes, written. -/
theorem wrb_step {M : List Pg} (hO : ModOk M) (a : Nat) (ds : List UInt8) {j n o b ix : Nat} {x : Pg} (hb : a + j = b) (ho : b % 4096 = o) (hj : j + n ≤ ds.length) (hn : o + n ≤ 4096) (hix : (wrb M a (ds.take j))[ix]? = some x) (hx : x.pg = pgOf b) :
    (insPg (wrb M a (ds.take j)) (P7 x.pg x.perm (x.bs.take o ++ (ds.drop j).take n ++ x.bs.drop (o + n)))).map kk = (wrb M a (ds.take (j + n))).map kk := by
  have hO' := hO.wrb a (ds.take j)
  have hcl : ((ds.drop j).take n).length = n := by simp; omega
  have e1 : ds.take (j + n) = ds.take j ++ (ds.drop j).take n := by rw [List.take_add]
  have e2 : a + (ds.take j).length = b := by rw [List.length_take, Nat.min_eq_left (by omega), hb]
  rw [e1, wrb_append, e2, wrb_page hO' ho _ (by rw [hcl]; exact hn), hcl]
  refine ins_rep hO'.rise hix (P7 x.pg x.perm (x.bs.take o ++ (ds.drop j).take n ++ x.bs.drop (o + n))) rfl _ ?_ ?_
  · rw [if_pos hx]; rfl
  · intro y hy; rw [if_neg (by rw [← hx]; exact hy)]
end Go.Proofs.YtjbphdjheklhbaaGreat

/-
  Layer 37, the document's answer: Write, the walk.
-/
namespace Go.Proofs.YtjbphdjheklhbaaGreat
open Go.RowKit

theorem strB_app (a b : List UInt8) : strB a ++ strB b = strB (a ++ b) := ByteArray.mk_append_mk ..
set_option maxRecDepth 100000 in
theorem strB_take (l : List UInt8) (o : Nat) (h : o ≤ l.length) (t : TypeId) (ht : Tryz.prog.underlying t = some .string) (w : World) : (Instr.slice t (.string (strB l)) none (some (.int .i64 o)) none).run Tryz.prog w = .ok (.string (strB (l.take o))) w := by
  have := run_slice_string_h (P := Tryz.prog) w t (strB l) ht .i64 o (by omega) (by simp [strB, ByteArray.size]; omega)
  rw [this, Int.toNat_natCast]
  congr 2
  apply ByteArray.ext
  simp [strB]
set_option maxRecDepth 100000 in
theorem strB_drop (l : List UInt8) (o : Nat) (h : o ≤ l.length) (t : TypeId) (ht : Tryz.prog.underlying t = some .string) (w : World) : (Instr.slice t (.string (strB l)) (some (.int .i64 o)) none none).run Tryz.prog w = .ok (.string (strB (l.drop o))) w := by
  have := run_slice_string_l (P := Tryz.prog) w t (strB l) ht .i64 o (by omega) (by simp [strB, ByteArray.size]; omega)
  rw [this, Int.toNat_natCast]
  congr 2
  apply ByteArray.ext
  simp [strB, ByteArray.size]
  exact List.take_of_length_le (by simp)
set_option maxRecDepth 100000 in
theorem strB_add (a b : List UInt8) (h : a.length + b.length ≤ 1000000) (t : TypeId) (w : World) : (binOp .add t (.string (strB a)) (.string (strB b))).run Tryz.prog w = .ok (.string (strB (a ++ b))) w := by
  have := run_string_add_sum (P := Tryz.prog) w (strB a) (strB b) (by simp [strB, ByteArray.size]; omega)
  simp only [binOp]
  rw [this, strB_app]
section
variable {e : Env} {w : World} {R : List HP} {M : List Pg}
set_option maxRecDepth 100000 in
theorem ref37WriteE (hO : ModOk M) (hl : M.length ≤ 100000) (a : Nat) (ha : a < 18446744073709551616) (ds : List UInt8) (hdl : ds.length ≤ 4611686018427387904) (hE : chk M a ds.length 2 ≠ 0) {d : Value} (hd : ∀ w', Holds e w' R → RdB w' d ds) {v : Value} (H : Holds e w (refH v M :: R)) :
    Calls Tryz.prog 32 #[v, .int .u64 a, d] w (Ret e (.tuple #[v, .int .i64 (chk M a ds.length 2)]) (refH v M :: R)) := by
  obtain ⟨ad, dc, rfl⟩ := (hd _ H.drop).shape
  have CC := Lib.hid (ref37Check hO hl a ha ds.length (by omega) (by omega) 2 (by omega) H)
  obtain ⟨N, hN⟩ : ∃ N, ds.length = N := ⟨_, rfl⟩
  rw [hN] at CC hdl hE ⊢
  obtain ⟨E, hEE⟩ : ∃ E, chk M a N 2 = E := ⟨_, rfl⟩
  rw [hEE] at CC hE ⊢
  have hEb : ((E : Int) != 0) = true := by simpa using hE
  clear hEE hd hN
  go_enter Tryz.func32, Tryz.ntmps32
  go_wp2_with fail
  refine CC.out.mono ?_
  rintro en w1 ⟨rfl, H1⟩
  go_wp2_with fail
  go_ret2
  exact ⟨rfl, H1⟩
set_option maxRecDepth 100000 in
set_option maxHeartbeats 2000000 in
theorem ref37Write (hO : ModOk M) (hl : M.length ≤ 100000) (a : Nat) (ha : a < 18446744073709551616) (ds : List UInt8) (hdl : ds.length ≤ 4611686018427387904) {d : Value} (hd : ∀ w', Holds e w' R → RdB w' d ds) {v : Value} (H : Holds e w (refH v M :: R)) :
    Calls Tryz.prog 32 #[v, .int .u64 a, d] w (RetEx e (fun v' : Value => .tuple #[v', .int .i64 (chk M a ds.length 2)]) (fun v' => refH v' (stoP M a ds) :: R)) := by
  obtain ⟨ad, dc, rfl⟩ := (hd _ H.drop).shape
  have CC := Lib.hid (ref37Check hO hl a ha ds.length (by omega) (by omega) 2 (by omega) H)
  obtain ⟨N, hN⟩ : ∃ N, ds.length = N := ⟨_, rfl⟩
  have HN := Lib.hid hN
  have HD := Lib.hid hd
  rw [hN] at CC hdl HD ⊢
  clear hd
  by_cases hE : chk M a N 2 = 0
  · have HP : Hid (stoP M a ds = wrb M a (ds.take N)) := Lib.hid (by unfold stoP; rw [hN, if_pos hE, ← hN, List.take_length])
    have hTN : N ≤ 64 ∧ There M a N := by
      have h := hE
      unfold chk at h
      split at h
      · cases h
      · exact ⟨by omega, there_of_chk (by rw [Int.toNat_natCast] at h; exact h)⟩
    obtain ⟨hN64, hT⟩ := hTN
    rw [hE] at CC ⊢
    have HT := Lib.hid hT
    have CP := Lib.hid fun (b : Nat) (hb : b < 18446744073709551616) (w' : World) => ref30Page (w := w') b hb
    have HO := Lib.hid hO
    have HL := Lib.hid hl
    clear hO hE hT hN
    go_enter Tryz.func32, Tryz.ntmps32
    go_wp2_with fail
    refine CC.out.mono ?_
    rintro en w1 ⟨rfl, H1⟩
    clear CC H
    go_wp2_with fail
    go_loopw [0, 9, 10, 11, 12, 13, 14] (fun l i _ _ _ _ _ wr => ∃ (j : Nat) (v' : Value), v' = l ∧ j ≤ N ∧ i = .int .i64 (j : Nat) ∧ Holds e wr (refH v' (wrb M a (ds.take j)) :: R)) (fun _ i _ _ _ _ _ _ => N - (Go.RowKit.intOf i).toNat)
    case atStart => exact ⟨0, v, rfl, by omega, rfl, by simpa [wrb] using H1⟩
    case round =>
      clear H1
      obtain ⟨j, v', rfl, hj, rfl, HX⟩ := hrel
      by_cases hlt : j < N
      · obtain ⟨hb64, hsome⟩ := HT.out j hlt
        have hO' := HO.out.wrb a (ds.take j)
        have hlen' : (wrb M a (ds.take j)).length ≤ 100000 := by rw [wrb_length]; exact HL.out
        obtain ⟨b, hb⟩ : ∃ b, a + j = b := ⟨_, rfl⟩
        rw [hb] at hb64 hsome
        have hsome2 : (fnd (wrb M a (ds.take j)) (pgOf b)).isSome = true := by rw [fnd_pgs (wrb_pgs M a _)]; exact hsome
        obtain ⟨x, hf⟩ := Option.isSome_iff_exists.1 hsome2
        have hab : (a : Int) + (j : Int) = (b : Int) := by omega
        obtain ⟨ix, hix, hxq⟩ := fnd_at hf
        have hxl := hO'.len x (List.mem_of_getElem? hix)
        have hat := (ins_self hO'.rise hix).2
        have hixl := (List.getElem?_eq_some_iff.1 hix).1
        obtain ⟨o, ho⟩ : ∃ o, b % 4096 = o := ⟨_, rfl⟩
        have hol : o < 4096 := by omega
        have hoI : (b : Int) % 4096 = (o : Int) := by omega
        obtain ⟨n, hn⟩ : ∃ n, min (N - j) (4096 - o) = n := ⟨_, rfl⟩
        have hn1 : 1 ≤ n ∧ j + n ≤ N ∧ o + n ≤ 4096 := by omega
        obtain ⟨n1, n2, n3⟩ := hn1
        have HST : Hid (∀ v', refH v' (insPg (wrb M a (ds.take j)) (P7 x.pg x.perm (x.bs.take o ++ (ds.drop j).take n ++ x.bs.drop (o + n)))) = refH v' (wrb M a (ds.take (j + n)))) := Lib.hid fun v' => refH_kk (wrb_step HO.out a ds hb ho (by rw [HN.out]; exact n2) n3 hix hxq) v'
        obtain ⟨q, hq⟩ : ∃ q, pgOf b = q := ⟨_, rfl⟩
        rw [hq] at hf hxq
        rw [hxq] at hat
        have CPb : Hid (∀ w' X, Holds e w' X → Calls Tryz.prog 62 #[.int .u64 b] w' (Ret e (.int .i64 q) X)) := Lib.hid fun w' X h => retQ (hq ▸ CP.out b hb64 w') h
        have CAq : Hid (∀ w', Holds e w' (refH v' (wrb M a (ds.take j)) :: R) → Calls Tryz.prog 61 #[v', .int .i64 q] w' (Ret e (.tuple #[.int .i64 ix, .bool true]) (refH v' (wrb M a (ds.take j)) :: R))) := Lib.hid fun w' h => by
          have := refAt7 hO'.rise hlen' q h
          rw [hat, hf] at this
          exact this
        obtain ⟨fn, hfn⟩ : ∃ fn, o + n = fn := ⟨_, rfl⟩
        obtain ⟨jn, hjn⟩ : ∃ jn, j + n = jn := ⟨_, rfl⟩
        have hs1 := fun w => strB_take x.bs o (by omega) 9 (by kernel_rfl) w
        have hs3 := fun w => strB_drop x.bs fn (by omega) 9 (by kernel_rfl) w
        have hc1 := strB_app (x.bs.take o) ((ds.drop j).take n)
        have hc2 := strB_app (x.bs.take o ++ (ds.drop j).take n) (x.bs.drop fn)
        have hz1 : ((strB (x.bs.take o)).size + (strB ((ds.drop j).take n)).size > 9223372036854775807) = False := eq_false (by simp [strB, ByteArray.size]; omega)
        have hz2 : ((strB (x.bs.take o ++ (ds.drop j).take n)).size + (strB (x.bs.drop fn)).size > 9223372036854775807) = False := eq_false (by simp [strB, ByteArray.size]; omega)
        have hz3 : (9223372036854775807 < (strB (x.bs.take o)).size + (strB ((ds.drop j).take n)).size) = False := hz1
        have hz4 : (9223372036854775807 < (strB (x.bs.take o ++ (ds.drop j).take n)).size + (strB (x.bs.drop fn)).size) = False := hz2
        have g1 := HD.out _ HX.drop
        unfold RdB at g1
        rw [HN.out] at g1
        obtain ⟨dg, dO, hda, _⟩ := g1.at (by omega)
        have hdcap : N ≤ dc := by
          rcases g1.2 with ⟨h, _⟩ | ⟨_, c', h, h', _⟩
          · rw [hda] at h; cases h
          · cases h; exact h'
        subst hda
        have hnj : jn - j = n := by omega
        have HCV : Hid (∀ w', Holds e w' R → (convert 23 9 (.slice (some ⟨dg, dO + j, none⟩) (jn - j) (dc - j))).run Tryz.prog w' = .ok (.string (strB ((ds.drop j).take n))) w') := Lib.hid fun w' h => by
          rw [hnj]
          have g1 := HD.out w' h
          unfold RdB at g1
          rw [HN.out] at g1
          have g2 := reads_drop (k := j) g1 (by omega)
          rw [Nat.mul_one, u8v_drop] at g2
          have g3 := reads_take (k := n) g2 (by omega)
          rw [Nat.mul_one, u8v_take] at g3
          have gl : ((ds.drop j).take n).length = n := by simp [HN.out]; omega
          have g4 : RdB w' (.slice (some ⟨dg, dO + j, none⟩) ((ds.drop j).take n).length (dc - j)) ((ds.drop j).take n) := by
            unfold RdB; rw [gl]; exact g3
          have g5 := convB g4
          rw [gl] at g5
          exact g5
        rw [hfn] at HST
        rw [hjn] at HST
        have CU : Hid (∀ w', Holds e w' (refH v' (wrb M a (ds.take j)) :: R) → Calls Tryz.prog 63 #[v', .agg #[.int .i64 q, .int .i64 x.perm, .string (strB (x.bs.take o ++ (ds.drop j).take n ++ x.bs.drop fn))]] w' (RetEx e (fun v'' : Value => v'') (fun v'' => refH v'' (insPg (wrb M a (ds.take j)) (P7 x.pg x.perm (x.bs.take o ++ (ds.drop j).take n ++ x.bs.drop fn))) :: refH v' (wrb M a (ds.take j)) :: R))) := Lib.hid fun w' h => by
          rw [← hxq]; exact refPut hO'.rise hlen' _ (fun _ h => refH.rd h) (P7 x.pg x.perm _) h
        generalize insPg (wrb M a (ds.take j)) (P7 x.pg x.perm (x.bs.take o ++ (ds.drop j).take n ++ x.bs.drop fn)) = M2 at *
        obtain ⟨g, oo, c, rfl, hpg⟩ := refH.page hix HX
        rw [hxq] at hpg
        generalize strB (x.bs.take o ++ (ds.drop j).take n ++ x.bs.drop fn) = s123 at *
        generalize strB (x.bs.take o ++ (ds.drop j).take n) = s12 at *
        generalize strB (x.bs.take o) = s1 at *
        generalize strB ((ds.drop j).take n) = s2 at *
        generalize strB (x.bs.drop fn) = s3 at *
        generalize strB x.bs = sx at *
        generalize x.perm = xp at *
        have HPG : Hid (∀ w', Holds e w' (refH (.slice (some ⟨g, oo, none⟩) (wrb M a (ds.take j)).length c) (wrb M a (ds.take j)) :: R) → w'.cell? ⟨g, oo + ix * 3, none⟩ = some (.int .i64 q) ∧ w'.cell? ⟨g, oo + ix * 3 + 1, none⟩ = some (.int .i64 xp) ∧ w'.cell? ⟨g, oo + ix * 3 + 2, none⟩ = some (.string sx) ∧ (convert 23 9 (.slice (some ⟨dg, dO + j, none⟩) (jn - j) (dc - j))).run Tryz.prog w' = .ok (.string s2) w') := Lib.hid fun w' h => by
          obtain ⟨p1, p2, p3⟩ := hpg w' h
          exact ⟨p1, p2, p3, HCV.out _ h.drop⟩
        have HJ : Hid (∀ v', refH v' M2 = refH v' (wrb M a (ds.take jn))) := HST
        have hixI : (ix : Int) < ((wrb M a (ds.take j)).length : Int) := by omega
        generalize hnM : (wrb M a (ds.take j)).length = nM at *
        generalize hM1 : wrb M a (ds.take j) = M1 at *
        obtain ⟨nj, hnj2⟩ : ∃ nj, N - j = nj := ⟨_, rfl⟩
        obtain ⟨fo, hfo⟩ : ∃ fo, 4096 - o = fo := ⟨_, rfl⟩
        have y1 : (N : Int) - (j : Int) = (nj : Int) := by omega
        have y2 : (4096 : Int) - (o : Int) = (fo : Int) := by omega
        have y3 : (o : Int) + (n : Int) = (fn : Int) := by omega
        have y4 : (j : Int) + (n : Int) = (jn : Int) := by omega
        have y5 : (j : Int) ≤ (jn : Int) := by omega
        have y6 : (jn : Int) ≤ (dc : Int) := by omega
        have y7 : (0 : Int) ≤ (j : Int) := by omega
        have y8 : ¬ dc = j := by omega
        have yb : jn ≤ 64 := by omega
        have yc : fn ≤ 4096 := by omega
        have yd : jn ≤ N := by omega
        have ye : j < jn := by omega
        have z1 : IntKind.i64.wrap (jn : Int) = jn := IntWalk.i64_in _ (by omega)
        have z2 : IntKind.i64.wrap (fn : Int) = fn := IntWalk.i64_in _ (by omega)
        have HLT := Lib.hid (show N - jn < N - j by omega)
        by_cases hmin : nj ≤ fo
        · obtain rfl : n = nj := by omega
          have x1 : (n : Int) ≤ (fo : Int) := by omega
          have x2 : ¬ fo < n := by omega
          have x3 : ¬ (fo : Int) < (n : Int) := by omega
          clear hf hsome hsome2 hb ho hq hxq hat hpg hix hO' hlen' hxl HST HCV hM1 g1 hn hfn hjn hnj hnj2 hfo hmin n1 n2 n3 hnM
          go_wp2_with fail
          refine (CPb.out _ _ HX).mono ?_
          rintro en w3 ⟨rfl, H3⟩
          go_wp2_with fail
          refine (CAq.out _ H3).mono ?_
          rintro en w4 ⟨rfl, H4⟩
          clear HX H3 CPb CAq
          have H5 := H4.drew
          go_wp2_with fail
          go_region_held3 (fun w' => w'.cell? ⟨g, oo + ix * 3, none⟩ = some (.int .i64 q) ∧ w'.cell? ⟨g, oo + ix * 3 + 1, none⟩ = some (.int .i64 xp) ∧ w'.cell? ⟨g, oo + ix * 3 + 2, none⟩ = some (.string sx) ∧ (convert 23 9 (.slice (some ⟨dg, dO + j, none⟩) (jn - j) (dc - j))).run Tryz.prog w' = .ok (.string s2) w')
            (first | exact HPG.out _ (by assumption) | exact HPG.out _ (Holds.drop (by assumption)))
            (first
              | (go_at_call 63; refine (CU.out _ (by assumption)).mono ?_; rintro en w7 ⟨v7, rfl, H7⟩))
          all_goals
            have H8 : Holds e w7 (refH v7 (wrb M a (ds.take jn)) :: R) := by
              have h9 := HJ.out v7
              rw [← h9]
              exact H7.d1
            have HF := Lib.hid H8
            clear H4 H5 H7 H8 HPG CU HJ
            go_wp2_with fail
            go_roundw
            case rel => exact ⟨jn, v7, rfl, yd, by go_num, HF.out⟩
            case measure => simp [Go.RowKit.intOf]; exact HLT.out
        · obtain rfl : n = fo := by omega
          have x1 : ¬ (nj : Int) ≤ (n : Int) := by omega
          have x2 : n < nj := by omega
          have x3 : (n : Int) < (nj : Int) := by omega
          clear hf hsome hsome2 hb ho hq hxq hat hpg hix hO' hlen' hxl HST HCV hM1 g1 hn hfn hjn hnj hnj2 hfo hmin n1 n2 n3 hnM
          go_wp2_with fail
          refine (CPb.out _ _ HX).mono ?_
          rintro en w3 ⟨rfl, H3⟩
          go_wp2_with fail
          refine (CAq.out _ H3).mono ?_
          rintro en w4 ⟨rfl, H4⟩
          clear HX H3 CPb CAq
          have H5 := H4.drew
          go_wp2_with fail
          go_region_held3 (fun w' => w'.cell? ⟨g, oo + ix * 3, none⟩ = some (.int .i64 q) ∧ w'.cell? ⟨g, oo + ix * 3 + 1, none⟩ = some (.int .i64 xp) ∧ w'.cell? ⟨g, oo + ix * 3 + 2, none⟩ = some (.string sx) ∧ (convert 23 9 (.slice (some ⟨dg, dO + j, none⟩) (jn - j) (dc - j))).run Tryz.prog w' = .ok (.string s2) w')
            (first | exact HPG.out _ (by assumption) | exact HPG.out _ (Holds.drop (by assumption)))
            (first
              | (go_at_call 63; refine (CU.out _ (by assumption)).mono ?_; rintro en w7 ⟨v7, rfl, H7⟩))
          all_goals
            have H8 : Holds e w7 (refH v7 (wrb M a (ds.take jn)) :: R) := by
              have h9 := HJ.out v7
              rw [← h9]
              exact H7.d1
            have HF := Lib.hid H8
            clear H4 H5 H7 H8 HPG CU HJ
            go_wp2_with fail
            go_roundw
            case rel => exact ⟨jn, v7, rfl, yd, by go_num, HF.out⟩
            case measure => simp [Go.RowKit.intOf]; exact HLT.out
      · obtain rfl : j = N := by omega
        have HF : Hid (Holds e wr (refH v' (stoP M a ds) :: R)) := Lib.hid (by rw [HP.out]; exact HX)
        clear HX
        go_wp2_with fail
        go_ret2
        exact ⟨v', rfl, HF.out⟩
  · have HP : Hid (stoP M a ds = M) := Lib.hid (by unfold stoP; rw [hN, if_neg hE])
    obtain ⟨E, hEE⟩ : ∃ E, chk M a N 2 = E := ⟨_, rfl⟩
    rw [hEE] at CC hE ⊢
    have hEb : ((E : Int) != 0) = true := by simpa using hE
    clear hEE
    go_enter Tryz.func32, Tryz.ntmps32
    go_wp2_with fail
    refine CC.out.mono ?_
    rintro en w1 ⟨rfl, H1⟩
    go_wp2_with fail
    go_ret2
    exact ⟨_, rfl, by rw [HP.out]; exact H1⟩
end
end Go.Proofs.YtjbphdjheklhbaaGreat

/-
  Layer 38, the document's answer: Does, of ops that write.
-/
namespace Go.Proofs.YtjbphdjheklhbaaGreat
open Go.RowKit

section
variable {e : Env} {w : World} {R : List HP} {M : List Pg}
set_option maxRecDepth 100000 in
set_option maxHeartbeats 2000000 in
theorem ref38Map (hO : ModOk M) (hl : M.length ≤ 100000) (o : OpS) (hk : o.kind = 0) (hK : OpOk e R o) {v : Value} (H : Holds e w (refH v M :: R)) :
    Calls Tryz.prog 16 #[v, o.val] w (RetEx e (fun v' : Value => .tuple #[v', ansVal (mapE M o.a o.perm) (.slice none 0 0)]) (fun v' => refH v' (mapP M o.a o.perm (0, 0)) :: R)) := by
  obtain ⟨ad, c, l, hdv⟩ : ∃ ad c l, o.d = .slice ad c l := let ⟨ad, c, h⟩ := (hK.rd w H.drop).shape; ⟨ad, _, c, h⟩
  have ha := hK.a
  have hrd := hK.rd
  have hlen := hK.len
  obtain ⟨kind, perm, n, a, d, ds⟩ := o
  simp only at hdv hk ha hrd hlen
  subst hdv hk
  have H1 := (H.alloc (opObj 0 perm n a (.slice ad c l))).alloc ansZ
  rw [World.size_alloc] at H1
  have hc1 := H1.swap.cells
  obtain ⟨bx, hbx⟩ : ∃ bx, w.heap.size = bx := ⟨_, rfl⟩
  rw [hbx] at H1 hc1
  have H2 : Holds e _ (refH v M :: pts (bx + 1) ansZ :: pts bx (opObj 0 perm n a (.slice ad c l)) :: R) := H1.re 3 [2, 0, 1]
  have hc2 : ∀ w' X, Holds e w' (X :: pts (bx + 1) ansZ :: pts bx (opObj 0 perm n a (.slice ad c l)) :: R) → ∀ j, w'.cell? ⟨bx, j, none⟩ = _ := fun w' X h => h.drop.drop.cells
  have CM := Lib.hid (ref37Map hO.rise hl a ha perm H2)
  unfold OpS.val opVal
  dsimp only
  generalize mapE M a perm = E at *
  unfold opObj ansZ at H2 hc1
  clear hc2
  go_enter Tryz.func16, Tryz.ntmps16
  go_wp2_with fail
  refine CM.out.mono ?_
  rintro en w1 ⟨v1, rfl, H3⟩
  have hX := Holds.swap H3
  unfold ansZ at hX
  have c5 := hX.cells
  have f5 := hX.frozen
  have H6 := ((hX.set 0 (.int .i64 (E : Int))).set 1 (.int .i64 0)).set 2 (.slice none 0 0)
  have HH := Lib.hid H6
  clear H6 hX H3 H2 H1 hc1 CM H
  go_wp2_with fail
  refine bodyPost_at HH.out fun w9 H9 => ?_
  have hc9 := H9.cells
  exact bodyPost_ret (v := .tuple #[v1, ansVal (E : Int) (.slice none 0 0)]) (by simp [results, Tryz.results16, go_sem, ansVal, hc9]) rfl ⟨v1, rfl, H9.drop.d1⟩
set_option maxRecDepth 100000 in
set_option maxHeartbeats 2000000 in
theorem ref38Pro (hO : ModOk M) (hl : M.length ≤ 100000) (o : OpS) (hk : o.kind = 2) (hK : OpOk e R o) {v : Value} (H : Holds e w (refH v M :: R)) :
    Calls Tryz.prog 16 #[v, o.val] w (RetEx e (fun v' : Value => .tuple #[v', ansVal (proE M o.a o.perm) (.slice none 0 0)]) (fun v' => refH v' (proP M o.a o.perm) :: R)) := by
  obtain ⟨ad, c, l, hdv⟩ : ∃ ad c l, o.d = .slice ad c l := let ⟨ad, c, h⟩ := (hK.rd w H.drop).shape; ⟨ad, _, c, h⟩
  have ha := hK.a
  have hrd := hK.rd
  have hlen := hK.len
  obtain ⟨kind, perm, n, a, d, ds⟩ := o
  simp only at hdv hk ha hrd hlen
  subst hdv hk
  have H1 := (H.alloc (opObj 2 perm n a (.slice ad c l))).alloc ansZ
  rw [World.size_alloc] at H1
  have hc1 := H1.swap.cells
  obtain ⟨bx, hbx⟩ : ∃ bx, w.heap.size = bx := ⟨_, rfl⟩
  rw [hbx] at H1 hc1
  have H2 : Holds e _ (refH v M :: pts (bx + 1) ansZ :: pts bx (opObj 2 perm n a (.slice ad c l)) :: R) := H1.re 3 [2, 0, 1]
  have hc2 : ∀ w' X, Holds e w' (X :: pts (bx + 1) ansZ :: pts bx (opObj 2 perm n a (.slice ad c l)) :: R) → ∀ j, w'.cell? ⟨bx, j, none⟩ = _ := fun w' X h => h.drop.drop.cells
  have CM := Lib.hid (ref37Protect hO hl a ha perm H2)
  unfold OpS.val opVal
  dsimp only
  generalize proE M a perm = E at *
  unfold opObj ansZ at H2 hc1
  clear hc2
  go_enter Tryz.func16, Tryz.ntmps16
  go_wp2_with fail
  refine CM.out.mono ?_
  rintro en w1 ⟨v1, rfl, H3⟩
  have hX := Holds.swap H3
  unfold ansZ at hX
  have c5 := hX.cells
  have f5 := hX.frozen
  have H6 := ((hX.set 0 (.int .i64 (E : Int))).set 1 (.int .i64 0)).set 2 (.slice none 0 0)
  have HH := Lib.hid H6
  clear H6 hX H3 H2 H1 hc1 CM H
  go_wp2_with fail
  refine bodyPost_at HH.out fun w9 H9 => ?_
  have hc9 := H9.cells
  exact bodyPost_ret (v := .tuple #[v1, ansVal (E : Int) (.slice none 0 0)]) (by simp [results, Tryz.results16, go_sem, ansVal, hc9]) rfl ⟨v1, rfl, H9.drop.d1⟩
set_option maxRecDepth 100000 in
set_option maxHeartbeats 2000000 in
theorem ref38Sto (hO : ModOk M) (hl : M.length ≤ 100000) (o : OpS) (hk : o.kind = 4) (hK : OpOk e R o) {v : Value} (H : Holds e w (refH v M :: R)) :
    Calls Tryz.prog 16 #[v, o.val] w (RetEx e (fun v' : Value => .tuple #[v', ansVal (chk M o.a o.ds.length 2) (.slice none 0 0)]) (fun v' => refH v' (stoP M o.a o.ds) :: R)) := by
  obtain ⟨ad, c, l, hdv⟩ : ∃ ad c l, o.d = .slice ad c l := let ⟨ad, c, h⟩ := (hK.rd w H.drop).shape; ⟨ad, _, c, h⟩
  have ha := hK.a
  have hrd := hK.rd
  have hlen := hK.len
  obtain ⟨kind, perm, n, a, d, ds⟩ := o
  simp only at hdv hk ha hrd hlen
  subst hdv hk
  have H1 := (H.alloc (opObj 4 perm n a (.slice ad c l))).alloc ansZ
  rw [World.size_alloc] at H1
  have hc1 := H1.swap.cells
  obtain ⟨bx, hbx⟩ : ∃ bx, w.heap.size = bx := ⟨_, rfl⟩
  rw [hbx] at H1 hc1
  have H2 : Holds e _ (refH v M :: pts (bx + 1) ansZ :: pts bx (opObj 4 perm n a (.slice ad c l)) :: R) := H1.re 3 [2, 0, 1]
  have hc2 : ∀ w' X, Holds e w' (X :: pts (bx + 1) ansZ :: pts bx (opObj 4 perm n a (.slice ad c l)) :: R) → ∀ j, w'.cell? ⟨bx, j, none⟩ = _ := fun w' X h => h.drop.drop.cells
  have CM := Lib.hid (ref37Write hO hl a ha ds hlen (fun w' g => hrd w' g.drop.drop) H2)
  unfold OpS.val opVal
  dsimp only
  generalize chk M a ds.length 2 = E at *
  unfold opObj ansZ at H2 hc1
  clear hc2
  go_enter Tryz.func16, Tryz.ntmps16
  go_wp2_with fail
  refine CM.out.mono ?_
  rintro en w1 ⟨v1, rfl, H3⟩
  have hX := Holds.swap H3
  unfold ansZ at hX
  have c5 := hX.cells
  have f5 := hX.frozen
  have H6 := ((hX.set 0 (.int .i64 (E : Int))).set 1 (.int .i64 0)).set 2 (.slice none 0 0)
  have HH := Lib.hid H6
  clear H6 hX H3 H2 H1 hc1 CM H
  go_wp2_with fail
  refine bodyPost_at HH.out fun w9 H9 => ?_
  have hc9 := H9.cells
  exact bodyPost_ret (v := .tuple #[v1, ansVal (E : Int) (.slice none 0 0)]) (by simp [results, Tryz.results16, go_sem, ansVal, hc9]) rfl ⟨v1, rfl, H9.drop.d1⟩
theorem ref38W (hO : ModOk M) (hl : M.length ≤ 100000) (o : OpS) (hk : o.wr) (hK : OpOk e R o) {v : Value} (H : Holds e w (refH v M :: R)) :
    Calls Tryz.prog 16 #[v, o.val] w (RetEx e (fun v' : Value => .tuple #[v', ansVal (opE M o) (.slice none 0 0)]) (fun v' => refH v' (opP M o (0, 0)) :: R)) := by
  rcases hk with hk | hk | hk
  · have e1 : opE M o = mapE M o.a o.perm := by unfold opE; rw [if_pos hk]
    have e2 : opP M o (0, 0) = mapP M o.a o.perm (0, 0) := by unfold opP; rw [if_pos hk]
    rw [e1, e2]
    exact ref38Map hO hl o hk hK H
  · have e1 : opE M o = proE M o.a o.perm := by unfold opE; rw [if_neg (by omega), if_pos hk]
    have e2 : opP M o (0, 0) = proP M o.a o.perm := by unfold opP; rw [if_neg (by omega), if_pos hk]
    rw [e1, e2]
    exact ref38Pro hO hl o hk hK H
  · have e1 : opE M o = chk M o.a o.ds.length 2 := by unfold opE; rw [if_neg (by omega), if_neg (by omega)]
    have e2 : opP M o (0, 0) = stoP M o.a o.ds := by unfold opP; rw [if_neg (by omega), if_neg (by omega)]
    rw [e1, e2]
    exact ref38Sto hO hl o hk hK H
end
end Go.Proofs.YtjbphdjheklhbaaGreat

/-
  Models that differ in where their pages lie: what they answer is the same. No program in sight.
-/
namespace Go.Proofs.YtjbphdjheklhbaaGreat
open Go.RowKit

/-- A page without its places. -/
def strip (x : Pg) : Pg := ⟨x.pg, x.perm, x.bs, 0, 0⟩
def stripM (M : List Pg) : List Pg := M.map strip
theorem fnd_strip (M : List Pg) (k : Nat) : fnd (stripM M) k = (fnd M k).map strip := by
  unfold fnd stripM
  rw [List.find?_map]
  rfl
theorem chkAt_strip (M : List Pg) (a u j : Nat) : chkAt (stripM M) a u j = chkAt M a u j := by
  unfold chkAt
  rw [fnd_strip]
  cases fnd M (pgOf (a + j)) <;> rfl
theorem chk_strip (M : List Pg) (a : Nat) (n : Int) (u : Nat) : chk (stripM M) a n u = chk M a n u := by
  have h : chkAt (stripM M) a u = chkAt M a u := funext (chkAt_strip M a u)
  unfold chk chkL
  rw [h]
theorem byteOf_strip (M : List Pg) (b : Nat) : byteOf (stripM M) b = byteOf M b := by
  unfold byteOf
  rw [fnd_strip]
  cases fnd M (pgOf b) <;> rfl
theorem rdb_strip (M : List Pg) (a n : Nat) : rdb (stripM M) a n = rdb M a n := by
  unfold rdb
  apply List.map_congr_left
  intro j _
  exact byteOf_strip M _
theorem wrAt_strip (M : List Pg) (b : Nat) (v : UInt8) : stripM (wrAt M b v) = wrAt (stripM M) b v := by
  unfold stripM wrAt
  rw [List.map_map, List.map_map]
  apply List.map_congr_left
  intro x _
  simp only [Function.comp]
  have h : (strip x).pg = x.pg := rfl
  rw [h]
  split <;> rfl
theorem wrb_strip (M : List Pg) (a : Nat) (l : List UInt8) : stripM (wrb M a l) = wrb (stripM M) a l := by
  unfold wrb
  generalize l.zipIdx = ps
  induction ps generalizing M with
  | nil => rfl
  | cons p ps ih => rw [List.foldl_cons, List.foldl_cons, ih, wrAt_strip]
theorem stoP_strip (M : List Pg) (a : Nat) (ds : List UInt8) : stripM (stoP M a ds) = stoP (stripM M) a ds := by
  unfold stoP
  rw [chk_strip]
  split
  · exact wrb_strip M a ds
  · rfl
theorem mapE_strip (M : List Pg) (a : Nat) (perm : Int) : mapE (stripM M) a perm = mapE M a perm := by
  unfold mapE
  rw [fnd_strip]
  cases fnd M (pgOf a) <;> rfl
theorem proE_strip (M : List Pg) (a : Nat) (perm : Int) : proE (stripM M) a perm = proE M a perm := by
  unfold proE
  rw [fnd_strip]
  cases fnd M (pgOf a) <;> rfl
theorem insPg_strip (M : List Pg) (x : Pg) : stripM (insPg M x) = insPg (stripM M) (strip x) := by
  unfold insPg stripM
  rw [List.map_append, List.map_cons, List.filter_map, List.filter_map]
  rfl
theorem mapP_strip (M : List Pg) (a : Nat) (perm : Int) (p : Nat × Nat) : stripM (mapP M a perm p) = mapP (stripM M) a perm (0, 0) := by
  unfold mapP
  rw [mapE_strip]
  split
  · rw [insPg_strip]; rfl
  · rfl
theorem proP_strip (M : List Pg) (a : Nat) (perm : Int) : stripM (proP M a perm) = proP (stripM M) a perm := by
  unfold proP
  rw [proE_strip]
  split
  · unfold stripM setPerm
    rw [List.map_map, List.map_map]
    apply List.map_congr_left
    intro x _
    simp only [Function.comp]
    have h : (strip x).pg = x.pg := rfl
    rw [h]
    split <;> rfl
  · rfl
theorem opP_strip (M : List Pg) (o : OpS) (p : Nat × Nat) : stripM (opP M o p) = opP (stripM M) o (0, 0) := by
  unfold opP
  split
  · exact mapP_strip ..
  · split
    · exact proP_strip ..
    · exact stoP_strip ..
theorem runP_strip : ∀ (L : List OpS) (ps : List (Nat × Nat)) (M : List Pg), ps.length = L.length → stripM (runP M L ps) = runP (stripM M) L (L.map fun _ => (0, 0))
  | [], [], _, _ => rfl
  | [], _ :: _, _, h => by simp at h
  | _ :: _, [], _, h => by simp at h
  | o :: L, p :: ps, M, h => by
    have ih := runP_strip L ps (opP M o p) (by simpa using h)
    rw [opP_strip] at ih
    exact ih
theorem execC_strip (x : InsS) (M : List Pg) (C : CpS) : execC x (stripM M) C = ((execC x M C).1, (execC x M C).2.1, stripM (execC x M C).2.2) := by
  unfold execC
  split <;> first
    | rfl
    | (rw [chk_strip, rdb_strip])
    | (rw [chk_strip, stoP_strip])
theorem stepS_strip (M : List Pg) (C : CpS) : stepS (stripM M) C = ((stepS M C).1, (stepS M C).2.1, stripM (stepS M C).2.2) := by
  unfold stepS
  rw [chk_strip, rdb_strip, execC_strip]
  repeat' split
  all_goals rfl
/-- Two models answer alike. -/
theorem step_alike {M M' : List Pg} (h : stripM M = stripM M') (C : CpS) : (stepS M C).1 = (stepS M' C).1 ∧ (stepS M C).2.1 = (stepS M' C).2.1 ∧ stripM (stepS M C).2.2 = stripM (stepS M' C).2.2 := by
  have h1 := stepS_strip M C
  have h2 := stepS_strip M' C
  rw [h, h2] at h1
  injection h1 with q1 q2
  injection q2 with q2 q3
  exact ⟨q1.symm, q2.symm, q3.symm⟩
theorem run_alike : ∀ (k : Nat) {M M' : List Pg} (_ : stripM M = stripM M') (C : CpS), (runF k M C).1 = (runF k M' C).1 ∧ (runF k M C).2.1 = (runF k M' C).2.1 ∧ (runF k M C).2.2.1 = (runF k M' C).2.2.1 ∧ stripM (runF k M C).2.2.2 = stripM (runF k M' C).2.2.2
  | 0, _, _, h, _ => ⟨rfl, rfl, rfl, h⟩
  | k + 1, M, M', h, C => by
    obtain ⟨s1, s2, s3⟩ := step_alike h C
    unfold runF
    rw [s1]
    split
    · exact ⟨rfl, rfl, rfl, h⟩
    · split
      · exact ⟨rfl, rfl, rfl, h⟩
      · have ih := run_alike k s3 (stepS M C).2.1
        rw [s2] at ih ⊢
        exact ⟨by rw [ih.1], ih.2.1, ih.2.2.1, ih.2.2.2⟩
end Go.Proofs.YtjbphdjheklhbaaGreat

/-
  Layer 48: code: is it too great; the ops that lay it.
-/
namespace Go.Proofs.YtjbphdjheklhbaaGreat
open Go.RowKit

def codeCells (bs pc : Nat) (sb sp sr : Value) : List Value := [.int .u64 bs, .int .u64 pc, sb, sp, sr]
def greatC (nb np nr : Nat) : Bool := decide (900 < nb) || decide (6 < np) || decide (20 < nr)
/-- Pages that are mapped. -/
def mapO (i : Nat) : OpS := ⟨0, 7, 0, 4096 * i, .slice none 0 0, []⟩
def proO (p : Int) (i : Nat) : OpS := ⟨2, p, 0, 4096 * i, .slice none 0 0, []⟩
/-- Bytes that are stored, the j-th 64 of them. -/
def stoO (bs g o c : Nat) (B : List UInt8) (j : Nat) : OpS := ⟨4, 0, 0, add64 bs (64 * j), .slice (some ⟨g, o + 64 * j, none⟩) (min B.length (64 * j + 64) - 64 * j) (c - 64 * j), (B.drop (64 * j)).take 64⟩

section
variable {e : Env} {w : World} {R : List HP}
set_option maxRecDepth 100000 in
theorem lawGreat (bs pc nb np nr : Nat) (a1 a2 a3 : Option Addr) (c1 c2 c3 : Nat) (h1 : nb ≤ 4611686018427387904) (h2 : np ≤ 4611686018427387904) (h3 : nr ≤ 4611686018427387904) (H : Holds e w R) :
    Calls Tryz.prog 11 #[.agg (codeCells bs pc (.slice a1 nb c1) (.slice a2 np c2) (.slice a3 nr c3)).toArray] w (Ret e (.bool (greatC nb np nr)) R) := by
  have H1 := (H.alloc (.cells (codeCells bs pc (.slice a1 nb c1) (.slice a2 np c2) (.slice a3 nr c3)).toArray 27)).drop
  have HH := Lib.hid H1
  clear H H1
  unfold codeCells at *
  go_enter Tryz.func11, Tryz.ntmps11
  go_wp2_with fail
  all_goals go_ret
  all_goals
    refine ⟨congrArg (fun b => Ending.returned (Value.bool b)) (?_ : _ = greatC nb np nr), HH.out⟩
    unfold greatC
    rw [Bool.eq_iff_iff]
    simp only [Bool.or_eq_true, decide_eq_true_eq]
    first | omega | exact ⟨fun _ => by omega, fun _ => trivial⟩
end
end Go.Proofs.YtjbphdjheklhbaaGreat

/-
  Layer 48: the ops that lay code.
-/
namespace Go.Proofs.YtjbphdjheklhbaaGreat
open Go.RowKit

theorem elem_op : ElemOf Tryz.prog 43 48 5 56 := ElemOf.mk (z := .agg #[.int .i64 0, .int .i64 0, .int .i64 0, .int .u64 0, .slice none 0 0]) (by kernel_rfl) (by kernel_rfl) rfl (by decide)
theorem ocells_one (L : List OpS) (hd : ∀ o ∈ L, ∃ a n c, o.d = .slice a n c) : ∀ u ∈ L.flatMap OpS.cells, u.oneCell' = true := by
  intro u hu
  obtain ⟨o, ho, hu⟩ := List.mem_flatMap.1 hu
  obtain ⟨a, n, c, h⟩ := hd o ho
  simp only [OpS.cells, List.mem_cons, List.not_mem_nil, or_false] at hu
  rcases hu with rfl | rfl | rfl | rfl | rfl <;> first | rfl | (rw [h]; rfl)
/-- How many stores. -/
def chN (n : Nat) : Nat := (n + 63) / 64
def laid (bs g o c : Nat) (B : List UInt8) (P : List Int) : List OpS := (List.range P.length).map mapO ++ (List.range (chN B.length)).map (stoO bs g o c B) ++ (List.range P.length).map fun i => proO (P.getD i 0) i

section
variable {e : Env} {w : World} {R : List HP}
set_option maxRecDepth 100000 in
set_option maxHeartbeats 2000000 in
theorem lawOps (bs pc : Nat) (B : List UInt8) (P : List Int) (hB : B.length ≤ 900) (hP : P.length ≤ 6) (g o c2 : Nat) (a1 a2 a3 : Option Addr) (cb c3 n3 : Nat) (hcap : B.length ≤ cb) (hA1 : B.length ≠ 0 → a1 = some ⟨g, o, none⟩)
    (hrp : ∀ w', Holds e w' R → Reads w' (.slice a2 P.length c2) 1 P.length (ints P)) (H : Holds e w R) :
    Calls Tryz.prog 14 #[.agg (codeCells bs pc (.slice a1 B.length cb) (.slice a2 P.length c2) (.slice a3 n3 c3)).toArray] w
      (RetEx e (fun v : Value => v) (fun v => row v 48 5 (laid bs g o cb B P).length ((laid bs g o cb B P).flatMap OpS.cells) :: R)) := by
  obtain ⟨nb, hnb⟩ : ∃ nb, B.length = nb := ⟨_, rfl⟩
  obtain ⟨np, hnp⟩ : ∃ np, P.length = np := ⟨_, rfl⟩
  have HNB := Lib.hid hnb
  have HNP := Lib.hid hnp
  have HRP := Lib.hid hrp
  obtain ⟨xb, hxb⟩ : ∃ xb, w.heap.size = xb := ⟨_, rfl⟩
  have H1 := H.alloc (.cells (codeCells bs pc (.slice a1 B.length cb) (.slice a2 P.length c2) (.slice a3 n3 c3)).toArray 27)
  rw [hxb] at H1
  rw [hnb, hnp] at H1 ⊢
  rw [hnp] at HRP
  rw [hnb] at hB hcap hA1
  have HA1 := Lib.hid hA1
  rw [hnp] at hP
  unfold codeCells at *
  have HX0 : Hid (∀ w' X Y, Holds e w' (Y :: pts xb (.cells (#[.int .u64 bs, .int .u64 pc, .slice a1 nb cb, .slice a2 np c2, .slice a3 n3 c3] : Array Value) 27 (0, 0)) :: X) → ∀ j, w'.cell? ⟨xb, j, none⟩ = (#[.int .u64 bs, .int .u64 pc, .slice a1 nb cb, .slice a2 np c2, .slice a3 n3 c3] : Array Value)[j]?) := Lib.hid fun w' X Y h' => h'.swap.cells
  clear hrp hnb hnp H hA1
  go_enter Tryz.func14, Tryz.ntmps14
  go_wp2_with fail
  go_loopw [3, 4] (fun l i wr => ∃ (k : Nat) (v : Value), v = l ∧ k ≤ np ∧ i = .int .i64 (k : Nat) ∧ Holds e wr (row v 48 5 k (((List.range k).map mapO).flatMap OpS.cells) :: pts xb (.cells (#[.int .u64 bs, .int .u64 pc, .slice a1 nb cb, .slice a2 np c2, .slice a3 n3 c3] : Array Value) 27 (0, 0)) :: R)) (fun _ i _ => np - (Go.RowKit.intOf i).toNat)
  case atStart => exact ⟨0, _, rfl, by omega, rfl, row.nil _ 5 H1⟩
  case round =>
    clear H1
    obtain ⟨k, v, rfl, hk, rfl, HX⟩ := hrel
    have hc := HX0.out _ _ _ HX
    by_cases hlt : k < np
    · obtain ⟨a, ha⟩ : ∃ a, 4096 * k = a := ⟨_, rfl⟩
      have i1 : (4096 : Int) * (k : Int) = (a : Int) := by omega
      have ab : a ≤ 50000 := by omega
      have HA : Holds e (wr.alloc (.cells #[.int .i64 0, .int .i64 7, .int .i64 0, .int .u64 a, .slice none 0 0] 48)) (row v 48 5 k (((List.range k).map mapO).flatMap OpS.cells) :: pts xb (.cells (#[.int .u64 bs, .int .u64 pc, .slice a1 nb cb, .slice a2 np c2, .slice a3 n3 c3] : Array Value) 27 (0, 0)) :: R) := (HX.alloc _).drop
      have HRL := reads_lits wr [.int .i64 0, .int .i64 7, .int .i64 0, .int .u64 a, .slice none 0 0] 48 1 5 rfl
      have HAA := Lib.hid ha
      clear HX ha
      go_wp2_with (at_builtin; refine wpList_append_sl rfl (.tmp 14) _ _ rfl 48 5 56 elem_op v k (((List.range k).map mapO).flatMap OpS.cells) rfl HA (.slice (some ⟨wr.heap.size, 0, none⟩) 1 1) 1 [.int .i64 0, .int .i64 7, .int .i64 0, .int .u64 a, .slice none 0 0] rfl HRL (by simp [Value.oneCell']) ?_ ?_ ?_)
      · unfold maxLen; omega
      · omega
      intro v5 w5 H5
      have HF : Hid (Holds e w5 (row v5 48 5 (k + 1) (((List.range (k + 1)).map mapO).flatMap OpS.cells) :: pts xb (.cells (#[.int .u64 bs, .int .u64 pc, .slice a1 nb cb, .slice a2 np c2, .slice a3 n3 c3] : Array Value) 27 (0, 0)) :: R)) := Lib.hid (by
        rw [List.range_succ, List.map_append, List.flatMap_append]
        have e1 : ([k].map mapO).flatMap OpS.cells = [.int .i64 0, .int .i64 7, .int .i64 0, .int .u64 a, .slice none 0 0] := by
          simp [mapO, OpS.cells, ← HAA.out]
        rw [e1]
        exact H5)
      clear HA HRL H5
      go_wp2_with fail
      go_roundw
      case rel => exact ⟨k + 1, v5, rfl, by omega, by go_num, HF.out⟩
      case measure => simp [Go.RowKit.intOf]; omega
    · obtain rfl : np = k := by omega
      have hkI : ¬ (np : Int) < (np : Int) := by omega
      go_wp2_with fail
      clear hc
      go_loopw [3, 5] (fun l i wr => ∃ (k : Nat) (v : Value), v = l ∧ k ≤ chN nb ∧ i = .int .i64 ((64 * k : Nat) : Int) ∧ Holds e wr (row v 48 5 (np + k) (((List.range np).map mapO ++ (List.range k).map (stoO bs g o cb B)).flatMap OpS.cells) :: pts xb (.cells (#[.int .u64 bs, .int .u64 pc, .slice a1 nb cb, .slice a2 np c2, .slice a3 n3 c3] : Array Value) 27 (0, 0)) :: R)) (fun _ i _ => nb + 64 - (Go.RowKit.intOf i).toNat)
      case atStart => exact ⟨0, _, rfl, Nat.zero_le _, rfl, by simpa using HX⟩
      case round =>
        clear HX
        obtain ⟨k, v2, rfl, hk2, rfl, HX⟩ := hrel
        have hc := HX0.out _ _ _ HX
        obtain ⟨i0, hi0⟩ : ∃ i0, 64 * k = i0 := ⟨_, rfl⟩
        rw [hi0]
        have hch : chN nb = (nb + 63) / 64 := rfl
        by_cases hlt2 : i0 < nb
        · obtain rfl : a1 = some ⟨g, o, none⟩ := HA1.out (by omega)
          obtain ⟨mn, hmn⟩ : ∃ mn, min nb (i0 + 64) = mn := ⟨_, rfl⟩
          have hm3 : mn ≤ nb ∧ i0 < mn ∧ mn ≤ i0 + 64 := by omega
          obtain ⟨hm1, hm2, hm4⟩ := hm3
          obtain ⟨A, hA⟩ : ∃ A, add64 bs i0 = A := ⟨_, rfl⟩
          have hw1 : IntKind.u64.wrap ((bs : Int) + (i0 : Int)) = (A : Int) := by rw [← hA]; exact add64_wrap bs i0
          have hA64 : A < 18446744073709551616 := by rw [← hA]; exact add64_lt bs i0
          have HST : Hid (stoO bs g o cb B k = ⟨4, 0, 0, A, .slice (some ⟨g, o + i0, none⟩) (mn - i0) (cb - i0), (B.drop i0).take 64⟩) := Lib.hid (by unfold stoO; rw [hi0, hA, HNB.out, hmn])
          have hck : ¬ cb = i0 := by omega
          have hmI : min (nb : Int) ((i0 : Int) + 64) = (mn : Int) := by omega
          have kI : (i0 : Int) ≤ (mn : Int) := by omega
          have mI : (mn : Int) ≤ (cb : Int) := by omega
          have kI0 : (0 : Int) ≤ (i0 : Int) := by omega
          obtain ⟨q, hq⟩ : ∃ q, i0 + 64 = q := ⟨_, rfl⟩
          have iq : (i0 : Int) + 64 = (q : Int) := by omega
          have qb : q ≤ 1000 := by omega
          have HQ := Lib.hid hq
          have hwq : IntKind.i64.wrap (q : Int) = q := IntWalk.i64_in _ (by omega)
          have hwi : IntKind.u64.wrap (i0 : Int) = i0 := by rw [IntKind.wrap_u64]; omega
          have hli : (i0 : Int) < (nb : Int) := by omega
          have f1 : np + k + 1 ≤ maxLen := by unfold maxLen; omega
          have f2 : (np + k + 1) * 56 ≤ 140737488355328 := by omega
          have hk3 : k + 1 ≤ chN nb := by omega
          have hk64 : 64 * (k + 1) = q := by omega
          have HK64 := Lib.hid hk64
          have HD := HX.drew
          have hcd := HX0.out _ _ _ HD
          by_cases h64 : nb ≤ q
          · have hme : mn = nb := by omega
            subst hme
            have x1 : (mn : Int) ≤ (q : Int) := by omega
            have x2 : ¬ q < mn := by omega
            have x3 : ¬ (q : Int) < (mn : Int) := by omega
            clear hmn hq hmI hA hi0 hk64 hch
            have e2 : ((List.range np).map mapO ++ (List.range (k + 1)).map (stoO bs g o cb B)).flatMap OpS.cells = ((List.range np).map mapO ++ (List.range k).map (stoO bs g o cb B)).flatMap OpS.cells ++ [.int .i64 4, .int .i64 0, .int .i64 0, .int .u64 A, .slice (some ⟨g, o + i0, none⟩) (mn - i0) (cb - i0)] := by
              rw [List.range_succ, List.map_append, ← List.append_assoc, List.flatMap_append (xs := _ ++ _)]
              congr 1
              rw [List.map_singleton, HST.out]
              simp [OpS.cells]
            have HE2 := Lib.hid e2
            clear e2
            go_wp2_with fail
            go_region_held3 (fun w' => ∀ j, w'.cell? ⟨xb, j, none⟩ = (#[.int .u64 bs, .int .u64 pc, .slice (some ⟨g, o, none⟩) mn cb, .slice a2 np c2, .slice a3 n3 c3] : Array Value)[j]?)
              (first | exact HX0.out _ _ _ (by assumption) | exact HX0.out _ _ _ (Holds.drop (Holds.alloc HD _)) | exact HX0.out _ _ _ (Holds.d1 (by assumption)))
              (first | (refine step_append_sl rfl (.tmp 28) (.tmp 45) _ rfl 48 5 56 elem_op _ (np + k) (((List.range np).map mapO ++ (List.range k).map (stoO bs g o cb B)).flatMap OpS.cells) rfl _ 1 [.int .i64 4, .int .i64 0, .int .i64 0, .int .u64 A, .slice (some ⟨g, o + i0, none⟩) (mn - i0) (cb - i0)] rfl (by simp [Value.oneCell']) f1 f2 (by first | exact HD | exact (HD.alloc _).swap | exact (HD.alloc _).drop) (by exact reads_lits wr [.int .i64 4, .int .i64 0, .int .i64 0, .int .u64 A, .slice (some ⟨g, o + i0, none⟩) (mn - i0) (cb - i0)] _ 1 5 rfl) ?_; intro v4 w4 H4))
            all_goals
              have HF := H4
              rw [← HE2.out] at HF
              have HF := Lib.hid HF
              clear HD H4 f1 f2 hc hcd
              go_wp2_with fail
              go_roundw
              case rel => exact ⟨k + 1, v4, rfl, hk3, by rw [HK64.out], by first | exact HF.out | exact HF.out.d1⟩
              case measure => simp [Go.RowKit.intOf]; omega
          · have hme : mn = q := by omega
            subst hme
            have x1 : ¬ (nb : Int) ≤ (mn : Int) := by omega
            have x2 : mn < nb := by omega
            have x3 : (mn : Int) < (nb : Int) := by omega
            clear hmn hq hmI hA hi0 hk64 hch
            have e2 : ((List.range np).map mapO ++ (List.range (k + 1)).map (stoO bs g o cb B)).flatMap OpS.cells = ((List.range np).map mapO ++ (List.range k).map (stoO bs g o cb B)).flatMap OpS.cells ++ [.int .i64 4, .int .i64 0, .int .i64 0, .int .u64 A, .slice (some ⟨g, o + i0, none⟩) (mn - i0) (cb - i0)] := by
              rw [List.range_succ, List.map_append, ← List.append_assoc, List.flatMap_append (xs := _ ++ _)]
              congr 1
              rw [List.map_singleton, HST.out]
              simp [OpS.cells]
            have HE2 := Lib.hid e2
            clear e2
            go_wp2_with fail
            go_region_held3 (fun w' => ∀ j, w'.cell? ⟨xb, j, none⟩ = (#[.int .u64 bs, .int .u64 pc, .slice (some ⟨g, o, none⟩) nb cb, .slice a2 np c2, .slice a3 n3 c3] : Array Value)[j]?)
              (first | exact HX0.out _ _ _ (by assumption) | exact HX0.out _ _ _ (Holds.drop (Holds.alloc HD _)) | exact HX0.out _ _ _ (Holds.d1 (by assumption)))
              (first | (refine step_append_sl rfl (.tmp 28) (.tmp 45) _ rfl 48 5 56 elem_op _ (np + k) (((List.range np).map mapO ++ (List.range k).map (stoO bs g o cb B)).flatMap OpS.cells) rfl _ 1 [.int .i64 4, .int .i64 0, .int .i64 0, .int .u64 A, .slice (some ⟨g, o + i0, none⟩) (mn - i0) (cb - i0)] rfl (by simp [Value.oneCell']) f1 f2 (by first | exact HD | exact (HD.alloc _).swap | exact (HD.alloc _).drop) (by exact reads_lits wr [.int .i64 4, .int .i64 0, .int .i64 0, .int .u64 A, .slice (some ⟨g, o + i0, none⟩) (mn - i0) (cb - i0)] _ 1 5 rfl) ?_; intro v4 w4 H4))
            all_goals
              have HF := H4
              rw [← HE2.out] at HF
              have HF := Lib.hid HF
              clear HD H4 f1 f2 hc hcd
              go_wp2_with fail
              go_roundw
              case rel => exact ⟨k + 1, v4, rfl, hk3, by rw [HK64.out], by first | exact HF.out | exact HF.out.d1⟩
              case measure => simp [Go.RowKit.intOf]; omega
        · have hli : ¬ (i0 : Int) < (nb : Int) := by omega
          have hkk : k = chN nb := by omega
          subst hkk
          go_wp2_with fail
          clear hc hch
          go_loopw [3, 6] (fun l i wr => ∃ (k : Nat) (v : Value), v = l ∧ k ≤ np ∧ i = .int .i64 (k : Nat) ∧ Holds e wr (row v 48 5 (np + chN nb + k) (((List.range np).map mapO ++ (List.range (chN nb)).map (stoO bs g o cb B) ++ (List.range k).map fun i => proO (P.getD i 0) i).flatMap OpS.cells) :: pts xb (.cells (#[.int .u64 bs, .int .u64 pc, .slice a1 nb cb, .slice a2 np c2, .slice a3 n3 c3] : Array Value) 27 (0, 0)) :: R)) (fun _ i _ => np - (Go.RowKit.intOf i).toNat)
          case atStart => exact ⟨0, _, rfl, Nat.zero_le _, rfl, by simpa using HX⟩
          case round =>
            clear HX
            obtain ⟨k, v3, rfl, hk3, rfl, HX⟩ := hrel
            have hc := HX0.out _ _ _ HX
            have hch : chN nb ≤ 20 := by unfold chN; omega
            by_cases hlt3 : k < np
            · obtain ⟨a, ha⟩ : ∃ a, 4096 * k = a := ⟨_, rfl⟩
              have i1 : (4096 : Int) * (k : Int) = (a : Int) := by omega
              have ab : a ≤ 50000 := by omega
              have HAA := Lib.hid ha
              obtain ⟨g2, o2, hg2, rr⟩ := (HRP.out _ HX.drop.drop).at (by omega)
              have c4 := rr k _ (ints_get (x := P.getD k 0) (get_getD (by rw [HNP.out]; exact hlt3)))
              subst hg2
              obtain ⟨p, hp⟩ : ∃ p, P.getD k 0 = p := ⟨_, rfl⟩
              rw [hp] at c4
              have HPP := Lib.hid hp
              have HA : Holds e (wr.alloc (.cells #[.int .i64 2, .int .i64 p, .int .i64 0, .int .u64 a, .slice none 0 0] 48)) (row v3 48 5 (np + chN nb + k) (((List.range np).map mapO ++ (List.range (chN nb)).map (stoO bs g o cb B) ++ (List.range k).map fun i => proO (P.getD i 0) i).flatMap OpS.cells) :: pts xb (.cells (#[.int .u64 bs, .int .u64 pc, .slice a1 nb cb, .slice (some ⟨g2, o2, none⟩) np c2, .slice a3 n3 c3] : Array Value) 27 (0, 0)) :: R) := (HX.alloc _).drop
              have HRL := reads_lits wr [.int .i64 2, .int .i64 p, .int .i64 0, .int .u64 a, .slice none 0 0] 48 1 5 rfl
              have kI : (k : Int) < (np : Int) := by omega
              generalize hL2 : (List.range np).map mapO ++ (List.range (chN nb)).map (stoO bs g o cb B) = L2 at *
              clear HX ha rr hp
              go_wp2_with (at_builtin; refine wpList_append_sl rfl (.tmp 54) _ _ rfl 48 5 56 elem_op v3 (np + chN nb + k) ((L2 ++ (List.range k).map fun i => proO (P.getD i 0) i).flatMap OpS.cells) rfl HA (.slice (some ⟨wr.heap.size, 0, none⟩) 1 1) 1 [.int .i64 2, .int .i64 p, .int .i64 0, .int .u64 a, .slice none 0 0] rfl HRL (by simp [Value.oneCell']) ?_ ?_ ?_)
              · unfold maxLen; omega
              · omega
              intro v5 w5 H5
              have e2 : (L2 ++ (List.range (k + 1)).map fun i => proO (P.getD i 0) i).flatMap OpS.cells = (L2 ++ (List.range k).map fun i => proO (P.getD i 0) i).flatMap OpS.cells ++ [.int .i64 2, .int .i64 p, .int .i64 0, .int .u64 a, .slice none 0 0] := by
                rw [List.range_succ, List.map_append, ← List.append_assoc, List.flatMap_append (xs := _ ++ _)]
                congr 1
                show (proO (P.getD k 0) k).cells ++ [] = _
                rw [HPP.out]
                simp [proO, OpS.cells, HAA.out]
              have HF : Hid (Holds e w5 (row v5 48 5 (np + chN nb + (k + 1)) ((L2 ++ (List.range (k + 1)).map fun i => proO (P.getD i 0) i).flatMap OpS.cells) :: pts xb (.cells (#[.int .u64 bs, .int .u64 pc, .slice a1 nb cb, .slice (some ⟨g2, o2, none⟩) np c2, .slice a3 n3 c3] : Array Value) 27 (0, 0)) :: R)) := Lib.hid (by
                rw [e2]
                first | exact H5 | (simp only [List.flatMap_append, List.append_assoc] at H5 ⊢; exact H5))
              clear HA HRL H5 e2
              go_wp2_with fail
              go_roundw
              case rel => exact ⟨k + 1, v5, rfl, by omega, by go_num, HF.out⟩
              case measure => simp [Go.RowKit.intOf]; omega
            · obtain rfl : np = k := by omega
              have kI : ¬ (np : Int) < (np : Int) := by omega
              have HLN : Hid ((laid bs g o cb B P).length = np + chN nb + np ∧ laid bs g o cb B P = (List.range np).map mapO ++ (List.range (chN nb)).map (stoO bs g o cb B) ++ (List.range np).map fun i => proO (P.getD i 0) i) := Lib.hid (by
                have h2 : laid bs g o cb B P = (List.range np).map mapO ++ (List.range (chN nb)).map (stoO bs g o cb B) ++ (List.range np).map fun i => proO (P.getD i 0) i := by unfold laid; rw [HNB.out, HNP.out]
                refine ⟨?_, h2⟩
                rw [h2]
                simp only [List.length_append, List.length_map, List.length_range])
              go_wp2_with fail
              go_ret
              refine ⟨v3, rfl, ?_⟩
              rw [HLN.out.1, HLN.out.2]
              exact HX.d1
end
end Go.Proofs.YtjbphdjheklhbaaGreat

/-
  Layer 38: are pages the same?
-/
namespace Go.Proofs.YtjbphdjheklhbaaGreat
open Go.RowKit

/-- A page as it is told. -/
structure PgV where
  at' : Nat
  perm : Nat
  d : Value
  bs : List UInt8
def PgV.cells (q : PgV) : List Value := [.int .u64 q.at', .int .i64 q.perm, q.d]
def PgV.key (q : PgV) : Nat × Nat × List UInt8 := (q.at', q.perm, q.bs)
theorem pcells_at {l : List PgV} {k : Nat} {b : PgV} (h : l[k]? = some b) (j : Nat) (hj : j < 3) : (l.flatMap PgV.cells)[k * 3 + j]? = b.cells[j]? := by
  induction l generalizing k with
  | nil => simp at h
  | cons x l ih =>
    cases k with
    | zero =>
      simp at h
      subst h
      rw [Nat.zero_mul, Nat.zero_add, List.flatMap_cons, List.getElem?_append_left (by simp [PgV.cells]; omega)]
    | succ k =>
      simp at h
      rw [List.flatMap_cons, List.getElem?_append_right (by simp [PgV.cells]; omega), ← ih h]
      congr 1
      simp [PgV.cells]
      omega
end Go.Proofs.YtjbphdjheklhbaaGreat

/-
  Layer 38, the document's answer: are pages those of a flat memory?
-/
namespace Go.Proofs.YtjbphdjheklhbaaGreat
open Go.RowKit

section
variable {e : Env} {w : World} {R : List HP}
set_option maxRecDepth 100000 in
set_option maxHeartbeats 2000000 in
theorem ref38Pages {L : List PgV} {M : List Pg} (hO : ModOk M) (hk : L.map PgV.key = M.map fun x => (upA (4096 * x.pg), x.perm, x.bs)) (v1 v2 : Value) (hl : M.length ≤ 100000) (hr1 : ∀ w', Holds e w' R → Reads w' v1 3 L.length (L.flatMap PgV.cells)) (hr2 : ∀ w', Holds e w' R → RdR w' v2 M)
    (hd1 : ∀ q ∈ L, ∀ w', Holds e w' R → RdB w' q.d q.bs) (H : Holds e w R) : Calls Tryz.prog 22 #[v1, v2] w (Ret e (.bool true) R) := by
  have hlen : L.length = M.length := by have := congrArg List.length hk; simpa using this
  obtain ⟨a1, c1, rfl⟩ := (hr1 w H).shape
  obtain ⟨a2, c2, rfl⟩ := (hr2 w H).1.shape
  obtain ⟨n, hn⟩ : ∃ n, M.length = n := ⟨_, rfl⟩
  rw [hlen] at hr1 ⊢
  rw [hn] at hr1 hr2 hl ⊢
  have HN := Lib.hid hn
  have HK := Lib.hid hk
  have HR1 := Lib.hid hr1
  have HR2 : Hid (∀ w', Holds e w' R → Reads w' (.slice a2 n c2) 3 n (M.flatMap rfC)) := Lib.hid fun w' h => by
    have := (hr2 w' h).1
    rw [hn] at this
    exact this
  have HD1 := Lib.hid hd1
  have HO := Lib.hid hO
  clear hk hr1 hr2 hd1 hlen hn hO
  go_enter Tryz.func22, Tryz.ntmps22
  go_wp2_with fail
  go_loopw [5] (fun i wr => ∃ k : Nat, k ≤ n ∧ i = .int .i64 (k : Nat) ∧ Holds e wr R) (fun i _ => n - (Go.RowKit.intOf i).toNat)
  case atStart => exact ⟨0, by omega, rfl, H⟩
  case round =>
    clear H
    obtain ⟨k, hk, rfl, HX⟩ := hrel
    by_cases hlt : k < n
    · obtain ⟨y, hy⟩ : ∃ y, M[k]? = some y := ⟨_, List.getElem?_eq_getElem (by rw [HN.out]; exact hlt)⟩
      obtain ⟨x, hx, hxy⟩ : ∃ x, L[k]? = some x ∧ x.key = (upA (4096 * y.pg), y.perm, y.bs) := by
        have h1 := congrArg (fun l => l[k]?) HK.out
        simp only [List.getElem?_map, hy, Option.map_some] at h1
        cases h2 : L[k]? with
        | none => rw [h2] at h1; cases h1
        | some x => rw [h2] at h1; exact ⟨x, rfl, Option.some.inj h1⟩
      obtain ⟨g1, o1, e1, _⟩ := (HR1.out _ HX).at (by omega)
      obtain ⟨g2, o2, e2, _⟩ := (HR2.out _ HX).at (by omega)
      subst e1 e2
      have HC : Hid (∀ w', Holds e w' R → (w'.cell? ⟨g1, o1 + k * 3, none⟩ = some (.int .u64 x.at') ∧ w'.cell? ⟨g1, o1 + k * 3 + 1, none⟩ = some (.int .i64 x.perm) ∧ w'.cell? ⟨g1, o1 + k * 3 + 2, none⟩ = some x.d) ∧ (w'.cell? ⟨g2, o2 + k * 3, none⟩ = some (.int .i64 y.pg) ∧ w'.cell? ⟨g2, o2 + k * 3 + 1, none⟩ = some (.int .i64 y.perm) ∧ w'.cell? ⟨g2, o2 + k * 3 + 2, none⟩ = some (.string (strB y.bs)))) := Lib.hid fun w' h' => by
        obtain ⟨g3, o3, hg3, rr⟩ := (HR1.out w' h').at (by omega)
        cases hg3
        obtain ⟨g4, o4, hg4, ss⟩ := (HR2.out w' h').at (by omega)
        cases hg4
        exact ⟨⟨rr _ _ (pcells_at hx 0 (by omega)), by rw [Nat.add_assoc]; exact rr _ _ (pcells_at hx 1 (by omega)), by rw [Nat.add_assoc]; exact rr _ _ (pcells_at hx 2 (by omega))⟩, ⟨ss _ _ (rfC_at hy 0 (by omega)), by rw [Nat.add_assoc]; exact ss _ _ (rfC_at hy 1 (by omega)), by rw [Nat.add_assoc]; exact ss _ _ (rfC_at hy 2 (by omega))⟩⟩
      have hdx := HD1.out x (List.mem_of_getElem? hx)
      have hyl := HO.out.lt y (List.mem_of_getElem? hy)
      obtain ⟨ax, cx, ex⟩ := (hdx _ HX).shape
      obtain ⟨xa, xp, xd, xs⟩ := x
      obtain ⟨yg, yp, ys, yb, yc⟩ := y
      injection hxy with q1 q2
      injection q2 with q2 q3
      dsimp only at *
      subst q1 q2 q3 ex
      obtain ⟨ya, hya⟩ : ∃ ya, 4096 * yg = ya := ⟨_, rfl⟩
      have ya64 : ya < 18446744073709551616 := by omega
      have CU := Lib.hid fun w' => ref30Up (w := w') ya ya64
      have i1 : (4096 : Int) * (yg : Int) = (ya : Int) := by omega
      have i2 : IntKind.u64.wrap (ya : Int) = ya := by rw [IntKind.wrap_u64]; omega
      have i3 : IntKind.u64.wrap (yg : Int) = yg := by rw [IntKind.wrap_u64]; omega
      rw [hya] at HC
      generalize upA ya = ua at *
      obtain ⟨I, Wf, hI, hW, hWs⟩ := worlds_of HX
      have r1 := fun i => (HC.out _ (hW i)).1.1
      have r2 := fun i => (HC.out _ (hW i)).1.2.1
      have r3 := fun i => (HC.out _ (hW i)).1.2.2
      have s1 := fun i => (HC.out _ (hW i)).2.1
      have s2 := fun i => (HC.out _ (hW i)).2.2.1
      have s3 := fun i => (HC.out _ (hW i)).2.2.2
      have x1 := fun i => convB (hdx _ (hW i))
      obtain ⟨lx, hlx⟩ : ∃ lx, xs.length = lx := ⟨_, rfl⟩
      rw [hlx] at r3 x1
      have kI : (k : Int) < (n : Int) := by omega
      unfold strB at s3
      generalize (⟨xs.toArray⟩ : ByteArray) = sb at *
      clear hx hy hdx HC hlx hya hyl
      go_wp2_with fail
      refine wp_region_holds hWs HX (by kernel_rfl) (by kernel_rfl) ?_
      try simp only [List.append_eq, List.cons_append, List.nil_append]
      (repeat (go_big_quiet_step ((go_at_call 38; exact quietQ (CU.out _) (hW _) hWs)))); refine wpQuiet_nil ?_; intro _ hw'; obtain ⟨nq, hw''⟩ := hw'; subst hw''
      have H8 := Lib.hid (hW nq)
      clear r1 r2 r3 s1 s2 s3 x1 hW hWs HX
      go_wp2_with fail
      go_roundw
      case rel => exact ⟨k + 1, by omega, by go_num, H8.out⟩
      case measure => simp [Go.RowKit.intOf]; omega
    · obtain rfl : n = k := by omega
      have kI : ¬ (n : Int) < (n : Int) := by omega
      go_wp2_with fail
      go_ret
      exact ⟨rfl, HX⟩
end
end Go.Proofs.YtjbphdjheklhbaaGreat

/-
  Layer 48: the reference's Put.
-/
namespace Go.Proofs.YtjbphdjheklhbaaGreat
open Go.RowKit

end Go.Proofs.YtjbphdjheklhbaaGreat

/-
  Layer 48: the reference's Take.
-/
namespace Go.Proofs.YtjbphdjheklhbaaGreat
open Go.RowKit

section
variable {e : Env} {w : World} {R : List HP}
set_option maxRecDepth 100000 in
set_option maxHeartbeats 8000000 in
theorem ref48TakeA (l : List UInt8) (hl : l.length = 8) (hu : unle ((l.drop 4).take 4) < 2147483648) (v : Value) (hr : ∀ w', Holds e w' R → RdB w' v l) (H : Holds e w R) :
    Calls Tryz.prog 33 #[v] w (Ret e (.tuple #[(insOf l).val, .bool (insOk l)]) R) := by
  obtain ⟨ad, c, rfl⟩ := (hr w H).shape
  have HR : Hid (∀ w', Holds e w' R → Reads w' (.slice ad 8 c) 1 8 (u8v l)) := Lib.hid fun w' h => by
    have h2 := hr w' h
    unfold RdB at h2
    rw [hl] at h2
    exact h2
  have CG : Hid (∀ w' X, (∀ w'', Holds e w'' X → Holds e w'' R) → Holds e w' X → Calls Tryz.prog 35 #[.slice ad 8 c, .int .i64 4, .int .i64 4] w' (Ret e (.int .u64 (unle ((l.drop 4).take 4))) X)) := Lib.hid fun w' X hX h => by
    have := retQ (ref01Get l 4 4 (by omega) (by omega) (by omega) (by omega) (.slice ad l.length c) (hr w' (hX _ h))) h
    rw [hl] at this
    exact this
  have hub := unle_lt ((l.drop 4).take 4)
  have hl4 : ((l.drop 4).take 4).length = 4 := by rw [List.length_take, List.length_drop, hl]; rfl
  rw [hl4] at hub
  have hub2 : unle ((l.drop 4).take 4) < 4294967296 := Nat.lt_of_lt_of_le hub (by decide)
  have hbd := sgn32_bd _ hub2
  have hins : insOf l = ⟨(l.getD 0 0).toNat, (l.getD 1 0).toNat, (l.getD 2 0).toNat, sgn32 (unle ((l.drop 4).take 4))⟩ := rfl
  have hok : insOk l = (mayI (insOf l) && decide ((l.getD 3 0).toNat = 0)) := by
    unfold insOk
    congr 1
    rw [Bool.eq_iff_iff]
    simp only [decide_eq_true_eq]
    constructor
    · intro h; rw [h]; rfl
    · intro h; exact UInt8.toNat_inj.1 h
  have q0 := (l.getD 0 0).toNat_lt
  have q1 := (l.getD 1 0).toNat_lt
  have q2 := (l.getD 2 0).toNat_lt
  have q3 := (l.getD 3 0).toNat_lt
  obtain ⟨g, o, rfl, _⟩ := (HR.out w H).at (by omega)
  have HB : Hid (∀ w', Holds e w' R → w'.cell? ⟨g, o + 0, none⟩ = some (.int .u8 (l.getD 0 0).toNat) ∧ w'.cell? ⟨g, o + 1, none⟩ = some (.int .u8 (l.getD 1 0).toNat) ∧ w'.cell? ⟨g, o + 2, none⟩ = some (.int .u8 (l.getD 2 0).toNat) ∧ w'.cell? ⟨g, o + 3, none⟩ = some (.int .u8 (l.getD 3 0).toNat)) := Lib.hid fun w' h => by
    obtain ⟨g', o', hg, hc⟩ := (HR.out w' h).at (by omega)
    cases hg
    exact ⟨hc 0 _ (u8v_get (by omega)), hc 1 _ (u8v_get (by omega)), hc 2 _ (u8v_get (by omega)), hc 3 _ (u8v_get (by omega))⟩
  rw [hok, hins, hl]
  generalize (l.getD 0 0).toNat = b0 at *
  generalize (l.getD 1 0).toNat = b1 at *
  generalize (l.getD 2 0).toNat = b2 at *
  generalize (l.getD 3 0).toNat = b3 at *
  generalize unle ((l.drop 4).take 4) = u at *
  obtain ⟨im, him⟩ : ∃ im, sgn32 u = im := ⟨_, rfl⟩
  have him2 : im = if u < 2147483648 then (u : Int) else (u : Int) - 4294967296 := by rw [← him]; rfl
  rw [him] at hbd ⊢
  obtain ⟨hbd1, hbd2⟩ := hbd
  have hv0 : IntKind.i64.wrap (b0 : Int) = b0 := IntWalk.i64_in _ (by omega)
  have hv1 : IntKind.i64.wrap (b1 : Int) = b1 := IntWalk.i64_in _ (by omega)
  have hv2 : IntKind.i64.wrap (b2 : Int) = b2 := IntWalk.i64_in _ (by omega)
  have hw32 : IntKind.i32.wrap im = im := by
    simp [IntKind.wrap, IntKind.bits, IntKind.signed]
    split <;> omega
  have CM := Lib.hid fun w' X (h : Holds e w' X) => ref48May ⟨b0, b1, b2, im⟩ h
  obtain ⟨mI, hmI⟩ : ∃ mI, mayI ⟨b0, b1, b2, im⟩ = mI := ⟨_, rfl⟩
  rw [hmI] at CM ⊢
  have H1 := H.alloc (.cells #[.int .i64 0, .int .i64 0, .int .i64 0, .int .i32 0] 88)
  obtain ⟨rx, hrx⟩ : ∃ rx, w.heap.size = rx := ⟨_, rfl⟩
  rw [hrx] at H1
  have e3 : ((b3 : Int) == 0) = decide (b3 = 0) := by rw [Bool.eq_iff_iff]; simp
  obtain ⟨z3, hz3⟩ : ∃ z3, decide (b3 = 0) = z3 := ⟨_, rfl⟩
  rw [hz3] at e3 ⊢
  have HZ := Lib.hid hz3
  clear hr hl hub hins hok hmI him hz3
  unfold InsS.val at CM ⊢
  dsimp only at CM ⊢
  go_enter Tryz.func33, Tryz.ntmps33
  go_wp2_with fail
  refine (CG.out _ _ (fun _ g => g.drop) H1).mono ?_
  rintro en w1 ⟨rfl, H2⟩
  obtain ⟨k0, k1, k2, k3⟩ := HB.out _ H2.drop
  simp only [Nat.add_zero] at k0
  have hgl := World.block_lt_of_cell? _ _ k0
  have hrl := H2.lt
  clear CG H1
  rw [if_pos hu] at him2
  subst him2
  have d1 : decide ((2147483648 : Int) ≤ (u : Int)) = false := decide_eq_false (by omega)
  generalize hui : (u : Int) = im at *
  go_wp2_with fail
  go_region
  have H3 := ((H2.alloc (.cells #[.int .i64 b0, .int .i64 b1, .int .i64 b2, .int .i32 im] 88))).drew
  obtain ⟨xb, hxb⟩ : ∃ xb, w1.heap.size = xb := ⟨_, rfl⟩
  rw [hxb] at H3 ⊢
  clear H2 k0 k1 k2 k3 hgl hrl
  go_wp2_with fail
  cases mI
  · refine code_at H3 fun w3 H4 => ?_
    have HC : Hid (∀ w' : World, Holds e w' (pts xb (.cells #[.int .i64 b0, .int .i64 b1, .int .i64 b2, .int .i32 im] 88 (0, 0)) :: pts rx (.cells #[.int .i64 0, .int .i64 0, .int .i64 0, .int .i32 0] 88 (0, 0)) :: R) →
        (∀ j, w'.cell? ⟨xb, j, none⟩ = #[Value.int .i64 b0, .int .i64 b1, .int .i64 b2, .int .i32 im][j]?) ∧ (∀ j, w'.cell? ⟨rx, j, none⟩ = #[Value.int .i64 0, .int .i64 0, .int .i64 0, .int .i32 0][j]?) ∧ (∀ j, w'.frozen? ⟨rx, j, none⟩ = false) ∧ w'.cell? ⟨g, o + 3, none⟩ = some (.int .u8 b3)) := Lib.hid fun w' h => ⟨h.cells, h.swap.cells, h.swap.frozen, (HB.out _ h.drop.drop).2.2.2⟩
    have HD : Hid (∀ w' : World, Holds e w' (pts xb (.cells #[.int .i64 b0, .int .i64 b1, .int .i64 b2, .int .i32 im] 88 (0, 0)) :: pts rx (.cells #[.int .i64 0, .int .i64 0, .int .i64 0, .int .i32 0] 88 (0, 0)) :: R) →
        Holds e ((((w'.setCell ⟨rx, 0, none⟩ (.int .i64 b0)).setCell ⟨rx, 1, none⟩ (.int .i64 b1)).setCell ⟨rx, 2, none⟩ (.int .i64 b2)).setCell ⟨rx, 3, none⟩ (.int .i32 im)) (pts rx (.cells #[.int .i64 b0, .int .i64 b1, .int .i64 b2, .int .i32 im] 88 (0, 0)) :: pts xb (.cells #[.int .i64 b0, .int .i64 b1, .int .i64 b2, .int .i32 im] 88 (0, 0)) :: R)) := Lib.hid fun w' h => (((h.swap.set 0 (.int .i64 b0)).set 1 (.int .i64 b1)).set 2 (.int .i64 b2)).set 3 (.int .i32 im)
    obtain ⟨c1, c2, c3, c4⟩ := HC.out _ H4
    have hnx := H4.ne
    have hne : ¬ g = rx := by
      rintro rfl
      have h := c2 (o + 3)
      rw [c4] at h
      cases o with
      | zero => simp at h
      | succ o => rw [Array.getElem?_eq_none (by simp)] at h; cases h
    have hd := H4.drew
    obtain ⟨e1, e2, e4, e5⟩ := HC.out _ hd
    have hne' : ¬ rx = g := fun h => hne h.symm
    clear H3
    first | go_region_with (go_at_call 65; refine (CM.out _ _ (by first | exact hd | assumption)).mono ?_; rintro e w4 ⟨rfl, HN⟩; obtain ⟨p1, p2, p3, p4⟩ := HC.out _ HN) | fail
    all_goals
      have H6 := HD.out _ HN
      clear c1 c2 c3 c4 e1 e2 e4 e5 p1 p2 p3 p4 HC HD HN
      go_wp2_with fail
      refine bodyPost_at H6 fun w9 H9 => ?_
      have hc9 := H9.cells
      exact bodyPost_ret (v := .tuple #[.agg #[.int .i64 b0, .int .i64 b1, .int .i64 b2, .int .i32 im], Value.bool false]) (by simp [results, Tryz.results33, go_sem, hc9]) rfl ⟨by first | (simp; done) | (simp; exact HZ.out.symm), H9.drop.drop⟩
  · refine code_at H3 fun w3 H4 => ?_
    have HC : Hid (∀ w' : World, Holds e w' (pts xb (.cells #[.int .i64 b0, .int .i64 b1, .int .i64 b2, .int .i32 im] 88 (0, 0)) :: pts rx (.cells #[.int .i64 0, .int .i64 0, .int .i64 0, .int .i32 0] 88 (0, 0)) :: R) →
        (∀ j, w'.cell? ⟨xb, j, none⟩ = #[Value.int .i64 b0, .int .i64 b1, .int .i64 b2, .int .i32 im][j]?) ∧ (∀ j, w'.cell? ⟨rx, j, none⟩ = #[Value.int .i64 0, .int .i64 0, .int .i64 0, .int .i32 0][j]?) ∧ (∀ j, w'.frozen? ⟨rx, j, none⟩ = false) ∧ w'.cell? ⟨g, o + 3, none⟩ = some (.int .u8 b3)) := Lib.hid fun w' h => ⟨h.cells, h.swap.cells, h.swap.frozen, (HB.out _ h.drop.drop).2.2.2⟩
    have HD : Hid (∀ w' : World, Holds e w' (pts xb (.cells #[.int .i64 b0, .int .i64 b1, .int .i64 b2, .int .i32 im] 88 (0, 0)) :: pts rx (.cells #[.int .i64 0, .int .i64 0, .int .i64 0, .int .i32 0] 88 (0, 0)) :: R) →
        Holds e ((((w'.setCell ⟨rx, 0, none⟩ (.int .i64 b0)).setCell ⟨rx, 1, none⟩ (.int .i64 b1)).setCell ⟨rx, 2, none⟩ (.int .i64 b2)).setCell ⟨rx, 3, none⟩ (.int .i32 im)) (pts rx (.cells #[.int .i64 b0, .int .i64 b1, .int .i64 b2, .int .i32 im] 88 (0, 0)) :: pts xb (.cells #[.int .i64 b0, .int .i64 b1, .int .i64 b2, .int .i32 im] 88 (0, 0)) :: R)) := Lib.hid fun w' h => (((h.swap.set 0 (.int .i64 b0)).set 1 (.int .i64 b1)).set 2 (.int .i64 b2)).set 3 (.int .i32 im)
    obtain ⟨c1, c2, c3, c4⟩ := HC.out _ H4
    have hnx := H4.ne
    have hne : ¬ g = rx := by
      rintro rfl
      have h := c2 (o + 3)
      rw [c4] at h
      cases o with
      | zero => simp at h
      | succ o => rw [Array.getElem?_eq_none (by simp)] at h; cases h
    have hd := H4.drew
    obtain ⟨e1, e2, e4, e5⟩ := HC.out _ hd
    have hne' : ¬ rx = g := fun h => hne h.symm
    clear H3
    first | go_region_with (go_at_call 65; refine (CM.out _ _ (by first | exact hd | assumption)).mono ?_; rintro e w4 ⟨rfl, HN⟩; obtain ⟨p1, p2, p3, p4⟩ := HC.out _ HN) | fail
    all_goals
      have H6 := HD.out _ HN
      clear c1 c2 c3 c4 e1 e2 e4 e5 p1 p2 p3 p4 HC HD HN
      go_wp2_with fail
      refine bodyPost_at H6 fun w9 H9 => ?_
      have hc9 := H9.cells
      exact bodyPost_ret (v := .tuple #[.agg #[.int .i64 b0, .int .i64 b1, .int .i64 b2, .int .i32 im], Value.bool z3]) (by simp [results, Tryz.results33, go_sem, hc9]) rfl ⟨by first | (simp; done) | (simp; exact HZ.out.symm), H9.drop.drop⟩
end
end Go.Proofs.YtjbphdjheklhbaaGreat

/-
  Layer 48: the reference's Take.
-/
namespace Go.Proofs.YtjbphdjheklhbaaGreat
open Go.RowKit

section
variable {e : Env} {w : World} {R : List HP}
set_option maxRecDepth 100000 in
set_option maxHeartbeats 8000000 in
theorem ref48TakeB (l : List UInt8) (hl : l.length = 8) (hu : ¬ unle ((l.drop 4).take 4) < 2147483648) (v : Value) (hr : ∀ w', Holds e w' R → RdB w' v l) (H : Holds e w R) :
    Calls Tryz.prog 33 #[v] w (Ret e (.tuple #[(insOf l).val, .bool (insOk l)]) R) := by
  obtain ⟨ad, c, rfl⟩ := (hr w H).shape
  have HR : Hid (∀ w', Holds e w' R → Reads w' (.slice ad 8 c) 1 8 (u8v l)) := Lib.hid fun w' h => by
    have h2 := hr w' h
    unfold RdB at h2
    rw [hl] at h2
    exact h2
  have CG : Hid (∀ w' X, (∀ w'', Holds e w'' X → Holds e w'' R) → Holds e w' X → Calls Tryz.prog 35 #[.slice ad 8 c, .int .i64 4, .int .i64 4] w' (Ret e (.int .u64 (unle ((l.drop 4).take 4))) X)) := Lib.hid fun w' X hX h => by
    have := retQ (ref01Get l 4 4 (by omega) (by omega) (by omega) (by omega) (.slice ad l.length c) (hr w' (hX _ h))) h
    rw [hl] at this
    exact this
  have hub := unle_lt ((l.drop 4).take 4)
  have hl4 : ((l.drop 4).take 4).length = 4 := by rw [List.length_take, List.length_drop, hl]; rfl
  rw [hl4] at hub
  have hub2 : unle ((l.drop 4).take 4) < 4294967296 := Nat.lt_of_lt_of_le hub (by decide)
  have hbd := sgn32_bd _ hub2
  have hins : insOf l = ⟨(l.getD 0 0).toNat, (l.getD 1 0).toNat, (l.getD 2 0).toNat, sgn32 (unle ((l.drop 4).take 4))⟩ := rfl
  have hok : insOk l = (mayI (insOf l) && decide ((l.getD 3 0).toNat = 0)) := by
    unfold insOk
    congr 1
    rw [Bool.eq_iff_iff]
    simp only [decide_eq_true_eq]
    constructor
    · intro h; rw [h]; rfl
    · intro h; exact UInt8.toNat_inj.1 h
  have q0 := (l.getD 0 0).toNat_lt
  have q1 := (l.getD 1 0).toNat_lt
  have q2 := (l.getD 2 0).toNat_lt
  have q3 := (l.getD 3 0).toNat_lt
  obtain ⟨g, o, rfl, _⟩ := (HR.out w H).at (by omega)
  have HB : Hid (∀ w', Holds e w' R → w'.cell? ⟨g, o + 0, none⟩ = some (.int .u8 (l.getD 0 0).toNat) ∧ w'.cell? ⟨g, o + 1, none⟩ = some (.int .u8 (l.getD 1 0).toNat) ∧ w'.cell? ⟨g, o + 2, none⟩ = some (.int .u8 (l.getD 2 0).toNat) ∧ w'.cell? ⟨g, o + 3, none⟩ = some (.int .u8 (l.getD 3 0).toNat)) := Lib.hid fun w' h => by
    obtain ⟨g', o', hg, hc⟩ := (HR.out w' h).at (by omega)
    cases hg
    exact ⟨hc 0 _ (u8v_get (by omega)), hc 1 _ (u8v_get (by omega)), hc 2 _ (u8v_get (by omega)), hc 3 _ (u8v_get (by omega))⟩
  rw [hok, hins, hl]
  generalize (l.getD 0 0).toNat = b0 at *
  generalize (l.getD 1 0).toNat = b1 at *
  generalize (l.getD 2 0).toNat = b2 at *
  generalize (l.getD 3 0).toNat = b3 at *
  generalize unle ((l.drop 4).take 4) = u at *
  obtain ⟨im, him⟩ : ∃ im, sgn32 u = im := ⟨_, rfl⟩
  have him2 : im = if u < 2147483648 then (u : Int) else (u : Int) - 4294967296 := by rw [← him]; rfl
  rw [him] at hbd ⊢
  obtain ⟨hbd1, hbd2⟩ := hbd
  have hv0 : IntKind.i64.wrap (b0 : Int) = b0 := IntWalk.i64_in _ (by omega)
  have hv1 : IntKind.i64.wrap (b1 : Int) = b1 := IntWalk.i64_in _ (by omega)
  have hv2 : IntKind.i64.wrap (b2 : Int) = b2 := IntWalk.i64_in _ (by omega)
  have hw32 : IntKind.i32.wrap im = im := by
    simp [IntKind.wrap, IntKind.bits, IntKind.signed]
    split <;> omega
  have CM := Lib.hid fun w' X (h : Holds e w' X) => ref48May ⟨b0, b1, b2, im⟩ h
  obtain ⟨mI, hmI⟩ : ∃ mI, mayI ⟨b0, b1, b2, im⟩ = mI := ⟨_, rfl⟩
  rw [hmI] at CM ⊢
  have H1 := H.alloc (.cells #[.int .i64 0, .int .i64 0, .int .i64 0, .int .i32 0] 88)
  obtain ⟨rx, hrx⟩ : ∃ rx, w.heap.size = rx := ⟨_, rfl⟩
  rw [hrx] at H1
  have e3 : ((b3 : Int) == 0) = decide (b3 = 0) := by rw [Bool.eq_iff_iff]; simp
  obtain ⟨z3, hz3⟩ : ∃ z3, decide (b3 = 0) = z3 := ⟨_, rfl⟩
  rw [hz3] at e3 ⊢
  have HZ := Lib.hid hz3
  clear hr hl hub hins hok hmI him hz3
  unfold InsS.val at CM ⊢
  dsimp only at CM ⊢
  go_enter Tryz.func33, Tryz.ntmps33
  go_wp2_with fail
  refine (CG.out _ _ (fun _ g => g.drop) H1).mono ?_
  rintro en w1 ⟨rfl, H2⟩
  obtain ⟨k0, k1, k2, k3⟩ := HB.out _ H2.drop
  simp only [Nat.add_zero] at k0
  have hgl := World.block_lt_of_cell? _ _ k0
  have hrl := H2.lt
  clear CG H1
  rw [if_neg hu] at him2
  have d1 : decide ((2147483648 : Int) ≤ (u : Int)) = true := decide_eq_true (by omega)
  have i1 : (u : Int) - 4294967296 = im := him2.symm
  clear him2
  go_wp2_with fail
  go_region
  have H3 := ((H2.alloc (.cells #[.int .i64 b0, .int .i64 b1, .int .i64 b2, .int .i32 im] 88))).drew
  obtain ⟨xb, hxb⟩ : ∃ xb, w1.heap.size = xb := ⟨_, rfl⟩
  rw [hxb] at H3 ⊢
  clear H2 k0 k1 k2 k3 hgl hrl
  go_wp2_with fail
  cases mI
  · refine code_at H3 fun w3 H4 => ?_
    have HC : Hid (∀ w' : World, Holds e w' (pts xb (.cells #[.int .i64 b0, .int .i64 b1, .int .i64 b2, .int .i32 im] 88 (0, 0)) :: pts rx (.cells #[.int .i64 0, .int .i64 0, .int .i64 0, .int .i32 0] 88 (0, 0)) :: R) →
        (∀ j, w'.cell? ⟨xb, j, none⟩ = #[Value.int .i64 b0, .int .i64 b1, .int .i64 b2, .int .i32 im][j]?) ∧ (∀ j, w'.cell? ⟨rx, j, none⟩ = #[Value.int .i64 0, .int .i64 0, .int .i64 0, .int .i32 0][j]?) ∧ (∀ j, w'.frozen? ⟨rx, j, none⟩ = false) ∧ w'.cell? ⟨g, o + 3, none⟩ = some (.int .u8 b3)) := Lib.hid fun w' h => ⟨h.cells, h.swap.cells, h.swap.frozen, (HB.out _ h.drop.drop).2.2.2⟩
    have HD : Hid (∀ w' : World, Holds e w' (pts xb (.cells #[.int .i64 b0, .int .i64 b1, .int .i64 b2, .int .i32 im] 88 (0, 0)) :: pts rx (.cells #[.int .i64 0, .int .i64 0, .int .i64 0, .int .i32 0] 88 (0, 0)) :: R) →
        Holds e ((((w'.setCell ⟨rx, 0, none⟩ (.int .i64 b0)).setCell ⟨rx, 1, none⟩ (.int .i64 b1)).setCell ⟨rx, 2, none⟩ (.int .i64 b2)).setCell ⟨rx, 3, none⟩ (.int .i32 im)) (pts rx (.cells #[.int .i64 b0, .int .i64 b1, .int .i64 b2, .int .i32 im] 88 (0, 0)) :: pts xb (.cells #[.int .i64 b0, .int .i64 b1, .int .i64 b2, .int .i32 im] 88 (0, 0)) :: R)) := Lib.hid fun w' h => (((h.swap.set 0 (.int .i64 b0)).set 1 (.int .i64 b1)).set 2 (.int .i64 b2)).set 3 (.int .i32 im)
    obtain ⟨c1, c2, c3, c4⟩ := HC.out _ H4
    have hnx := H4.ne
    have hne : ¬ g = rx := by
      rintro rfl
      have h := c2 (o + 3)
      rw [c4] at h
      cases o with
      | zero => simp at h
      | succ o => rw [Array.getElem?_eq_none (by simp)] at h; cases h
    have hd := H4.drew
    obtain ⟨e1, e2, e4, e5⟩ := HC.out _ hd
    have hne' : ¬ rx = g := fun h => hne h.symm
    clear H3
    first | go_region_with (go_at_call 65; refine (CM.out _ _ (by first | exact hd | assumption)).mono ?_; rintro e w4 ⟨rfl, HN⟩; obtain ⟨p1, p2, p3, p4⟩ := HC.out _ HN) | fail
    all_goals
      have H6 := HD.out _ HN
      clear c1 c2 c3 c4 e1 e2 e4 e5 p1 p2 p3 p4 HC HD HN
      go_wp2_with fail
      refine bodyPost_at H6 fun w9 H9 => ?_
      have hc9 := H9.cells
      exact bodyPost_ret (v := .tuple #[.agg #[.int .i64 b0, .int .i64 b1, .int .i64 b2, .int .i32 im], Value.bool false]) (by simp [results, Tryz.results33, go_sem, hc9]) rfl ⟨by first | (simp; done) | (simp; exact HZ.out.symm), H9.drop.drop⟩
  · refine code_at H3 fun w3 H4 => ?_
    have HC : Hid (∀ w' : World, Holds e w' (pts xb (.cells #[.int .i64 b0, .int .i64 b1, .int .i64 b2, .int .i32 im] 88 (0, 0)) :: pts rx (.cells #[.int .i64 0, .int .i64 0, .int .i64 0, .int .i32 0] 88 (0, 0)) :: R) →
        (∀ j, w'.cell? ⟨xb, j, none⟩ = #[Value.int .i64 b0, .int .i64 b1, .int .i64 b2, .int .i32 im][j]?) ∧ (∀ j, w'.cell? ⟨rx, j, none⟩ = #[Value.int .i64 0, .int .i64 0, .int .i64 0, .int .i32 0][j]?) ∧ (∀ j, w'.frozen? ⟨rx, j, none⟩ = false) ∧ w'.cell? ⟨g, o + 3, none⟩ = some (.int .u8 b3)) := Lib.hid fun w' h => ⟨h.cells, h.swap.cells, h.swap.frozen, (HB.out _ h.drop.drop).2.2.2⟩
    have HD : Hid (∀ w' : World, Holds e w' (pts xb (.cells #[.int .i64 b0, .int .i64 b1, .int .i64 b2, .int .i32 im] 88 (0, 0)) :: pts rx (.cells #[.int .i64 0, .int .i64 0, .int .i64 0, .int .i32 0] 88 (0, 0)) :: R) →
        Holds e ((((w'.setCell ⟨rx, 0, none⟩ (.int .i64 b0)).setCell ⟨rx, 1, none⟩ (.int .i64 b1)).setCell ⟨rx, 2, none⟩ (.int .i64 b2)).setCell ⟨rx, 3, none⟩ (.int .i32 im)) (pts rx (.cells #[.int .i64 b0, .int .i64 b1, .int .i64 b2, .int .i32 im] 88 (0, 0)) :: pts xb (.cells #[.int .i64 b0, .int .i64 b1, .int .i64 b2, .int .i32 im] 88 (0, 0)) :: R)) := Lib.hid fun w' h => (((h.swap.set 0 (.int .i64 b0)).set 1 (.int .i64 b1)).set 2 (.int .i64 b2)).set 3 (.int .i32 im)
    obtain ⟨c1, c2, c3, c4⟩ := HC.out _ H4
    have hnx := H4.ne
    have hne : ¬ g = rx := by
      rintro rfl
      have h := c2 (o + 3)
      rw [c4] at h
      cases o with
      | zero => simp at h
      | succ o => rw [Array.getElem?_eq_none (by simp)] at h; cases h
    have hd := H4.drew
    obtain ⟨e1, e2, e4, e5⟩ := HC.out _ hd
    have hne' : ¬ rx = g := fun h => hne h.symm
    clear H3
    first | go_region_with (go_at_call 65; refine (CM.out _ _ (by first | exact hd | assumption)).mono ?_; rintro e w4 ⟨rfl, HN⟩; obtain ⟨p1, p2, p3, p4⟩ := HC.out _ HN) | fail
    all_goals
      have H6 := HD.out _ HN
      clear c1 c2 c3 c4 e1 e2 e4 e5 p1 p2 p3 p4 HC HD HN
      go_wp2_with fail
      refine bodyPost_at H6 fun w9 H9 => ?_
      have hc9 := H9.cells
      exact bodyPost_ret (v := .tuple #[.agg #[.int .i64 b0, .int .i64 b1, .int .i64 b2, .int .i32 im], Value.bool z3]) (by simp [results, Tryz.results33, go_sem, hc9]) rfl ⟨by first | (simp; done) | (simp; exact HZ.out.symm), H9.drop.drop⟩
end
end Go.Proofs.YtjbphdjheklhbaaGreat

/-
  Layer 48: the reference's Take, whole.
-/
namespace Go.Proofs.YtjbphdjheklhbaaGreat
open Go.RowKit

section
variable {e : Env} {w : World} {R : List HP}
theorem ref48Take' (l : List UInt8) (hl : l.length = 8) (v : Value) (hr : ∀ w', Holds e w' R → RdB w' v l) (H : Holds e w R) :
    Calls Tryz.prog 33 #[v] w (Ret e (.tuple #[(insOf l).val, .bool (insOk l)]) R) := by
  by_cases h : unle ((l.drop 4).take 4) < 2147483648
  · exact ref48TakeA l hl h v hr H
  · exact ref48TakeB l hl h v hr H
end
end Go.Proofs.YtjbphdjheklhbaaGreat

/-
  Package va: a page's address.
-/
namespace Go.Proofs.YtjbphdjheklhbaaGreat
open Go.RowKit

section
variable {e : Env} {w : World} {R : List HP}
set_option maxRecDepth 100000 in
theorem vaAt (p : Nat) (hp : p < 68719476736) : Calls Tryz.prog 40 #[.int .i64 p] w (Quiet w (.int .u64 (upA (4096 * p)))) := by
  obtain ⟨a, ha⟩ : ∃ a, 4096 * p = a := ⟨_, rfl⟩
  have ha64 : a < 18446744073709551616 := by omega
  have c := fun w => vaSpread (w := w) a ha64
  rw [ha]
  have i1 : (p : Int) * 4096 = (a : Int) := by omega
  have hw : IntKind.u64.wrap (a : Int) = a := by rw [IntKind.wrap_u64]; omega
  have hp2 : decide ((68719476736 : Int) ≤ (p : Int)) = false := decide_eq_false (by omega)
  clear ha
  go_enter Tryz.func40, Tryz.ntmps40
  go_wp2_with fail
  refine (c _).mono ?_
  rintro e w1 ⟨rfl, n1, rfl⟩
  go_wp2_with fail
  go_ret
  exact ⟨rfl, _, rfl⟩
end
end Go.Proofs.YtjbphdjheklhbaaGreat

/-
  slices.Clone of bytes that are there.
-/
namespace Go.Proofs.YtjbphdjheklhbaaGreat
open Go.RowKit

section
variable {e : Env} {w : World} {R : List HP}
set_option maxRecDepth 100000 in
theorem slClone (l : List UInt8) (hl : l.length ≤ 100000) (a : Addr) (c : Nat) (hr : ∀ w', Holds e w' R → RdB w' (.slice (some a) l.length c) l) (H : Holds e w R) :
    Calls Tryz.prog 41 #[.slice (some a) l.length c] w (RetEx e (fun v : Value => v) (fun v => bts v l :: R)) := by
  have hrd := hr _ (H.alloc (.cells #[] 5)).drop
  obtain ⟨n, hn⟩ : ∃ n, l.length = n := ⟨_, rfl⟩
  have HN := Lib.hid hn
  unfold RdB at hrd
  rw [hn] at hrd hl ⊢
  have HA : Holds e (w.alloc (.cells #[] 5)) (row (.slice (some ⟨w.heap.size, 0, none⟩) 0 0) 5 1 0 [] :: R) := row.made (H.alloc _) (Nat.le_refl _) (by decide) rfl rfl
  clear hr hn
  have hq : ∀ w, (binOp .eql 23 (.slice (some a) n c) (.slice none 0 0)).run Tryz.prog w = .ok (.bool false) w := fun w => by kernel_rfl
  go_enter Tryz.func41, Tryz.ntmps41
  go_wp2_with (at_builtin; refine wpList_append_sl rfl (.tmp 5) _ _ rfl 5 1 1 elem_u8 (.slice (some ⟨w.heap.size, 0, none⟩) 0 0) 0 [] rfl HA (.slice (some a) n c) n (u8v l) rfl hrd (u8v_one l) ?_ ?_ ?_)
  · unfold maxLen; omega
  · omega
  intro v5 w5 H5
  have HF : Hid (Holds e w5 (bts v5 l :: R)) := Lib.hid (by
    unfold bts
    rw [HN.out]
    simpa using H5)
  clear HA hrd H5
  go_wp2_with fail
  go_ret
  exact ⟨v5, rfl, HF.out⟩
end
end Go.Proofs.YtjbphdjheklhbaaGreat

/-
  Layer 48: code as an argument.
-/
namespace Go.Proofs.YtjbphdjheklhbaaGreat
open Go.RowKit Go.ChangeShapes Go.WideShapes Go.ChangeAt

theorem Flat.nums {P : Program} {W : World} {t e : TypeId} {k : IntKind} {v : Value} {d : Nat} (h : Flat P W (d + 2) t [v]) (ht : P.underlying t = some (.slice e)) (he : P.underlying e = some (.int k)) (hc : P.cellsOf e = 1) :
    ∃ zs : List Int, Reads W v 1 zs.length (zs.map (Value.int k)) ∧ zs.length * P.bytesOf e ≤ reachBytes ∧ ∀ z ∈ zs, (Lit.int k z).wf = true := by
  obtain ⟨v', n, xs, hv, hr, hb, hf⟩ := h.slice ht
  simp at hv
  subst hv
  rw [hc] at hr
  have hl : xs.length = n := by have := hr.len; omega
  have each : ∀ i, i < n → ∃ z, xs[i]? = some (.int k z) ∧ (Lit.int k z).wf = true := by
    intro i hi
    obtain ⟨z, h1, h2⟩ := (hf i hi).int he
    refine ⟨z, ?_, h2⟩
    rw [hc, Nat.mul_one] at h1
    have := congrArg (·[0]?) h1
    simpa [List.getElem?_take, List.getElem?_drop] using this
  have : ∃ zs : List Int, zs.map (Value.int k) = xs ∧ ∀ z ∈ zs, (Lit.int k z).wf = true := by
    clear hr hf hb
    induction xs generalizing n with
    | nil => exact ⟨[], rfl, by simp⟩
    | cons x xs ih =>
      obtain ⟨z, h1, h2⟩ := each 0 (by simp at hl; omega)
      obtain ⟨zs, h3, h4⟩ := ih (n - 1) (by simp at hl; omega) (fun i hi => by simpa using each (i + 1) (by omega))
      simp at h1
      subst h1
      refine ⟨z :: zs, by simp [h3], ?_⟩
      intro z' hz'
      rcases List.mem_cons.1 hz' with rfl | hz'
      · exact h2
      · exact h4 _ hz'
  obtain ⟨zs, rfl, hz⟩ := this
  have hn : n = zs.length := by simpa using hl.symm
  subst hn
  exact ⟨zs, hr, hb, hz⟩
theorem wf9_u64 {z : Int} (h : (Lit.int .u64 z).wf = true) : 0 ≤ z ∧ z ≤ 18446744073709551615 := by
  simp [Lit.wf, IntKind.min, IntKind.max, IntKind.signed, IntKind.bits] at h; omega
theorem wf9_i64 {z : Int} (h : (Lit.int .i64 z).wf = true) : -9223372036854775808 ≤ z ∧ z ≤ 9223372036854775807 := by
  simp [Lit.wf, IntKind.min, IntKind.max, IntKind.signed, IntKind.bits] at h; omega
theorem wf9_u8 {z : Int} (h : (Lit.int .u8 z).wf = true) : 0 ≤ z ∧ z ≤ 255 := by
  simp [Lit.wf, IntKind.min, IntKind.max, IntKind.signed, IntKind.bits] at h; omega
theorem u8_of {zs : List Int} (h : ∀ z ∈ zs, 0 ≤ z ∧ z ≤ 255) : ∃ b : List UInt8, zs.map (Value.int .u8) = u8v b ∧ b.length = zs.length := by
  refine ⟨zs.map fun z => UInt8.ofNat z.toNat, ?_, by simp⟩
  unfold u8v
  rw [List.map_map]
  apply List.map_congr_left
  intro z hz
  have := h z hz
  simp only [Function.comp, UInt8.toNat_ofNat']
  congr 1
  omega
theorem u64_of {zs : List Int} (h : ∀ z ∈ zs, 0 ≤ z ∧ z ≤ 18446744073709551615) : ∃ b : List Nat, zs.map (Value.int .u64) = u64v b ∧ b.length = zs.length ∧ ∀ x ∈ b, x < 18446744073709551616 := by
  refine ⟨zs.map Int.toNat, ?_, by simp, ?_⟩
  · unfold u64v
    rw [List.map_map]
    apply List.map_congr_left
    intro z hz
    have := h z hz
    simp only [Function.comp]
    congr 1
    omega
  · intro x hx
    obtain ⟨z, hz, rfl⟩ := List.mem_map.1 hx
    have := h z hz
    omega

set_option maxRecDepth 100000 in
theorem code_of {W : World} {v : Value} (h : Arg Tryz.prog W 27 v) : ∃ (bs pc : Nat) (B : List UInt8) (P : List Int) (ns : List Nat) (v1 v2 v3 : Value),
    v = .agg #[.int .u64 bs, .int .u64 pc, v1, v2, v3] ∧ bs < 18446744073709551616 ∧ pc < 18446744073709551616 ∧ (∀ x ∈ ns, x < 18446744073709551616) ∧ B.length ≤ 4611686018427387904 ∧ P.length ≤ 4611686018427387904 ∧ ns.length ≤ 4611686018427387904 ∧
    RdB W v1 B ∧ Reads W v2 1 P.length (ints P) ∧ Reads W v3 1 ns.length (u64v ns) ∧ ∀ z ∈ P, -9223372036854775808 ≤ z ∧ z ≤ 9223372036854775807 := by
  obtain ⟨hf, r, base, hv⟩ := h
  obtain ⟨cs, rfl, hsz⟩ := okWide_struct Tryz.underlying27 hv
  have hfl : Flat Tryz.prog W (3 + 3) 27 cs.toList := hf
  obtain ⟨v0, k0, e0, _, f0⟩ := flat_cell 3 3 hfl (j := 0) (u := 22) (by kernel_rfl)
  obtain ⟨v1, k1, e1, _, f1⟩ := flat_cell 3 3 hfl (j := 1) (u := 22) (by kernel_rfl)
  obtain ⟨v2, k2, e2, h2, f2⟩ := flat_cell 3 3 hfl (j := 2) (u := 23) (by kernel_rfl)
  obtain ⟨v3, k3, e3, h3, f3⟩ := flat_cell 3 3 hfl (j := 3) (u := 24) (by kernel_rfl)
  obtain ⟨v4, k4, e4, h4, f4⟩ := flat_cell 3 3 hfl (j := 4) (u := 25) (by kernel_rfl)
  obtain ⟨z0, g0, w0⟩ := f0.int (k := .u64) (by kernel_rfl)
  obtain ⟨z1, g1, w1⟩ := f1.int (k := .u64) (by kernel_rfl)
  obtain ⟨k2, rfl⟩ : ∃ k, k2 = k + 1 := ⟨k2 - 1, by omega⟩
  obtain ⟨k3, rfl⟩ : ∃ k, k3 = k + 1 := ⟨k3 - 1, by omega⟩
  obtain ⟨k4, rfl⟩ : ∃ k, k4 = k + 1 := ⟨k4 - 1, by omega⟩
  obtain ⟨zb, rb, bb, wb⟩ := f2.nums (e := 5) (k := .u8) (by kernel_rfl) (by kernel_rfl) (by kernel_rfl)
  obtain ⟨zp, rp, bp, wp⟩ := f3.nums (e := 3) (k := .i64) (by kernel_rfl) (by kernel_rfl) (by kernel_rfl)
  obtain ⟨zn, rn, bn, wn⟩ := f4.nums (e := 22) (k := .u64) (by kernel_rfl) (by kernel_rfl) (by kernel_rfl)
  have x1 : Tryz.prog.bytesOf 5 = 1 := by kernel_rfl
  have x2 : Tryz.prog.bytesOf 3 = 8 := by kernel_rfl
  have x3 : Tryz.prog.bytesOf 22 = 8 := by kernel_rfl
  rw [x1] at bb; rw [x2] at bp; rw [x3] at bn
  have hre : reachBytes = 140737488351232 := by decide
  rw [hre] at bb bp bn
  obtain ⟨B, eB, lB⟩ := u8_of fun z hz => wf9_u8 (wb z hz)
  obtain ⟨ns, en, ln, hn⟩ := u64_of fun z hz => wf9_u64 (wn z hz)
  have w0 := wf9_u64 w0
  have w1 := wf9_u64 w1
  simp at g0 g1
  subst g0 g1
  obtain ⟨z0, rfl⟩ : ∃ n : Nat, z0 = n := ⟨z0.toNat, by omega⟩
  obtain ⟨z1, rfl⟩ : ∃ n : Nat, z1 = n := ⟨z1.toNat, by omega⟩
  have hc5 : Tryz.prog.cellsOf 27 = 5 := by kernel_rfl
  refine ⟨z0, z1, B, zp, ns, v2, v3, v4, ?_, by omega, by omega, hn, by omega, by omega, by omega, ?_, rp, ?_, fun z hz => wf9_i64 (wp z hz)⟩
  · congr 1
    apply Array.toList_inj.1
    apply List.ext_getElem?
    intro i
    have hl : cs.toList.length = 5 := by rw [Array.length_toList, hsz, hc5]
    match i with
    | 0 => exact e0
    | 1 => exact e1
    | 2 => exact e2
    | 3 => exact e3
    | 4 => exact e4
    | i + 5 => rw [List.getElem?_eq_none (by omega), List.getElem?_eq_none (by simp)]
  · unfold RdB; rw [lB, ← eB]; exact rb
  · rw [ln, ← en]; exact rn

end Go.Proofs.YtjbphdjheklhbaaGreat
