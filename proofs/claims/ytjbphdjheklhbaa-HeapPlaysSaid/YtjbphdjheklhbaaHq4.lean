/-
  Layer 47: the reference's Free: the walk.
-/
import Derived.Test.YtjbphdjheklhbaaHq3
namespace Go.Proofs.Ytjbphdjheklhbaa
open Go.RowKit

section
variable {e : Env} {w : World} {R : List HP}
set_option maxRecDepth 100000 in
set_option maxHeartbeats 1000000 in
theorem refFreeNo {l : List BlkS} (hl : RbOk l) (z : Int) (h0 : ∀ y ∈ l, isR z y = false) (v : Value) (hr : Reads w v 3 l.length (l.flatMap rcells)) :
    Calls Try.prog 22 #[v, .int .i64 z] w (Quiet w (.tuple #[v, .bool false])) := by
  obtain ⟨ad, c, rfl⟩ := hr.shape
  obtain ⟨len, hlen⟩ : ∃ len, l.length = len := ⟨_, rfl⟩
  have hlb := hl.len
  have HSZ := Lib.hid hl.sz
  have H0 := Lib.hid h0
  rw [hlen] at hr hlb ⊢
  clear h0 hl
  go_enter Try.func22, Try.ntmps22
  go_wp2_with fail
  go_loopw [6, 7] (fun t i wr => ∃ k : Nat, k ≤ len ∧ i = .int .i64 (k : Nat) ∧ t = .int .i64 (-1) ∧ ∃ q, wr = w.drewN q) (fun _ i _ => len - (Go.RowKit.intOf i).toNat)
  case atStart => exact ⟨0, by omega, rfl, rfl, 0, rfl⟩
  case round =>
    obtain ⟨k, hk, rfl, rfl, q, rfl⟩ := hrel
    by_cases hlt : k < len
    · obtain ⟨b, hbk⟩ : ∃ b, l[k]? = some b := ⟨_, List.getElem?_eq_getElem (by omega)⟩
      obtain ⟨hb1, hb2, hb3⟩ := HSZ.out b (List.mem_of_getElem? hbk)
      have hf := H0.out b (List.mem_of_getElem? hbk)
      obtain ⟨g, of', rfl, hrr⟩ := hr.at (by omega)
      have c0 : w.cell? ⟨g, of' + k * 3, none⟩ = some (.int .i64 b.o) := hrr _ _ (rcells_at hbk 0 (by omega))
      have c2 : w.cell? ⟨g, of' + k * 3 + 2, none⟩ = some (.bool b.used) := by rw [Nat.add_assoc]; exact hrr _ _ (rcells_at hbk 2 (by omega))
      unfold isR at hf
      obtain ⟨bo, bs, bu⟩ := b
      dsimp only at *
      obtain ⟨x, hx⟩ : ∃ x, bo + 8 = x := ⟨_, rfl⟩
      have i1 : (bo : Int) + 8 = (x : Int) := by omega
      have xb : x ≤ 65544 := by omega
      clear hrr hbk
      cases bu
      · clear hf hx
        go_wp2_with fail
        go_roundw
        case rel => exact ⟨k + 1, by omega, by go_num, rfl, _, rfl⟩
        case measure => simp [Go.RowKit.intOf]; omega
      · have hne : ¬ (x : Int) = z := by simp at hf; omega
        have d1 : ((x : Int) == z) = false := by simp; exact hne
        clear hf hx
        go_wp2_with fail
        go_roundw
        case rel => exact ⟨k + 1, by omega, by go_num, rfl, _, rfl⟩
        case measure => simp [Go.RowKit.intOf]; omega
    · obtain rfl : k = len := by omega
      go_wp2_with fail
      go_ret2
      exact ⟨rfl, _, rfl⟩

/-- What is known of the blocks that are put together. -/
def OutOk (O : List BlkS) (k : Nat) : Prop := O.length ≤ k ∧ ∀ y ∈ O, y.size ≤ 65536 * k
theorem OutOk.step {a k : Nat} {O : List BlkS} {b : BlkS} (h : OutOk O k) (hb : b.size ≤ 65536) : OutOk (stepR a O k b) (k + 1) := by
  obtain ⟨h1, h2⟩ := h
  refine ⟨Nat.le_trans stepR_len (by omega), ?_⟩
  have key : ∀ y ∈ O ++ [(⟨b.o, b.size, b.used && !decide (k = a)⟩ : BlkS)], y.size ≤ 65536 * (k + 1) := by
    intro y hy
    rcases List.mem_append.1 hy with hy | hy
    · have := h2 y hy; omega
    · have : y = ⟨b.o, b.size, b.used && !decide (k = a)⟩ := by simpa using hy
      subst this
      show b.size ≤ _
      omega
  unfold stepR
  split
  · next p hp =>
    split
    · intro y hy
      rcases List.mem_or_eq_of_mem_set hy with hy | rfl
      · have := h2 y hy; omega
      · have := h2 p (List.mem_of_getElem? hp)
        show p.size + b.size ≤ _
        omega
    · exact key
  · exact key

set_option maxRecDepth 100000 in
set_option maxHeartbeats 4000000 in
theorem refFreeYes {l : List BlkS} (hl : RbOk l) (z : Int) (a : Nat) (b : BlkS) (ha : l[a]? = some b) (hab : isR z b = true) (h0 : ∀ (j : Nat) y, j ≠ a → l[j]? = some y → isR z y = false)
    (v : Value) (hr : ∀ w', Holds e w' R → Reads w' v 3 l.length (l.flatMap rcells)) (H : Holds e w R) :
    Calls Try.prog 22 #[v, .int .i64 z] w (RetEx e (fun v' => .tuple #[v', .bool true]) (fun v' => row v' 60 3 (freeL (isR z) l).length ((freeL (isR z) l).flatMap rcells) :: R)) := by
  rw [← outR_free ha hab fun j y hj hy => h0 j y (by omega) hy]
  obtain ⟨ad, c, rfl⟩ := (hr w H).shape
  obtain ⟨len, hlen⟩ : ∃ len, l.length = len := ⟨_, rfl⟩
  have HLEN := Lib.hid hlen
  have hlb := hl.len
  have HSZ := Lib.hid hl.sz
  have H0 := Lib.hid h0
  have hal := (List.getElem?_eq_some_iff.1 ha).1
  rw [hlen] at hr hlb hal ⊢
  have HR := Lib.hid hr
  have HAB := Lib.hid hab
  have HA0 := Lib.hid ha
  obtain ⟨g, o, rfl, _⟩ := (hr w H).at (by omega)
  have HC : Hid (∀ w', Holds e w' R → ∀ (k : Nat) y, l[k]? = some y → w'.cell? ⟨g, o + k * 3, none⟩ = some (.int .i64 y.o) ∧ w'.cell? ⟨g, o + k * 3 + 1, none⟩ = some (.int .i64 y.size) ∧ w'.cell? ⟨g, o + k * 3 + 2, none⟩ = some (.bool y.used)) := Lib.hid fun w' h' k y hi => by
    obtain ⟨g2, o2, e2, rr⟩ := (hr w' h').at (by omega)
    cases e2
    exact ⟨rr _ _ (rcells_at hi 0 (by omega)), by rw [Nat.add_assoc]; exact rr _ _ (rcells_at hi 1 (by omega)), by rw [Nat.add_assoc]; exact rr _ _ (rcells_at hi 2 (by omega))⟩
  clear hr h0 hl hlen ha hab
  go_enter Try.func22, Try.ntmps22
  go_wp2_with fail
  go_loopw [6, 7] (fun t i wr => ∃ k : Nat, k ≤ len ∧ i = .int .i64 (k : Nat) ∧ t = .int .i64 (if a < k then (a : Int) else -1) ∧ Holds e wr R) (fun _ i _ => len - (Go.RowKit.intOf i).toNat)
  case atStart => exact ⟨0, by omega, rfl, rfl, H⟩
  case round =>
    clear H
    obtain ⟨k, hk, rfl, rfl, HX⟩ := hrel
    by_cases hlt : k < len
    · obtain ⟨b, hbk⟩ : ∃ b, l[k]? = some b := ⟨_, List.getElem?_eq_getElem (by rw [HLEN.out]; omega)⟩
      obtain ⟨hb1, hb2, hb3⟩ := HSZ.out b (List.mem_of_getElem? hbk)
      obtain ⟨c0, c1, c2⟩ := HC.out _ HX k b hbk
      have HXX := Lib.hid HX
      by_cases hka : k = a
      · have hf : isR z b = true := by
          have h1 := HA0.out
          rw [← hka, hbk] at h1
          cases h1
          exact HAB.out
        subst hka
        unfold isR at hf
        obtain ⟨bo, bs, bu⟩ := b
        dsimp only at *
        simp only [Bool.and_eq_true, decide_eq_true_eq] at hf
        obtain ⟨rfl, hz⟩ := hf
        obtain ⟨x, hx⟩ : ∃ x, bo + 8 = x := ⟨_, rfl⟩
        have i1 : (bo : Int) + 8 = (x : Int) := by omega
        obtain rfl : z = (x : Int) := by omega
        have xb : x ≤ 65544 := by omega
        clear hz hx hbk HX
        go_wp2_with fail
        go_roundw
        case rel => exact ⟨k + 1, by omega, by go_num, by rw [if_pos (Nat.lt_succ_self k)], HXX.out⟩
        case measure => simp [Go.RowKit.intOf]; omega
      · have hf := H0.out k b hka hbk
        have HIF : Hid ((if a < k then (a : Int) else -1) = if a < k + 1 then (a : Int) else -1) := Lib.hid (by
          by_cases h : a < k
          · rw [if_pos h, if_pos (by omega)]
          · rw [if_neg h, if_neg (by omega)])
        generalize (if a < k then (a : Int) else -1) = t at *
        unfold isR at hf
        obtain ⟨bo, bs, bu⟩ := b
        dsimp only at *
        obtain ⟨x, hx⟩ : ∃ x, bo + 8 = x := ⟨_, rfl⟩
        have i1 : (bo : Int) + 8 = (x : Int) := by omega
        have xb : x ≤ 65544 := by omega
        clear hbk HX
        cases bu
        · clear hf hx
          go_wp2_with fail
          go_roundw
          case rel => exact ⟨k + 1, by omega, by go_num, by rw [HIF.out], HXX.out⟩
          case measure => simp [Go.RowKit.intOf]; omega
        · have hne : ¬ (x : Int) = z := by simp at hf; omega
          have d1 : ((x : Int) == z) = false := by simp; exact hne
          clear hf hx
          go_wp2_with fail
          go_roundw
          case rel => exact ⟨k + 1, by omega, by go_num, by rw [HIF.out], HXX.out⟩
          case measure => simp [Go.RowKit.intOf]; omega
    · obtain rfl : len = k := by omega
      rw [if_pos hal]
      have d0 : decide ((a : Int) < 0) = false := by simp
      go_wp2_with fail
      go_loopw [8, 9] (fun out i wr2 => ∃ (k : Nat) (O : List BlkS), k ≤ len ∧ i = .int .i64 (k : Nat) ∧ Hid (O = outR a l k) ∧ Hid (OutOk O k) ∧ Holds e wr2 (row out 60 3 O.length (O.flatMap rcells) :: R)) (fun _ i _ => len - (Go.RowKit.intOf i).toNat)
      case atStart => exact ⟨0, [], by omega, rfl, Lib.hid rfl, Lib.hid ⟨by simp, by simp⟩, row.nil _ 3 HX⟩
      case round =>
        clear HX
        obtain ⟨k, O, hk, rfl, hO, hOk, HX⟩ := hrel
        obtain ⟨oa, oc, hov⟩ := row_shape HX
        subst hov
        obtain ⟨no, hno⟩ : ∃ no, O.length = no := ⟨_, rfl⟩
        have hOl := hOk.out.1
        rw [hno] at HX hOl ⊢
        have HNO := Lib.hid hno
        by_cases hlt : k < len
        · obtain ⟨b, hbk⟩ : ∃ b, l[k]? = some b := ⟨_, List.getElem?_eq_getElem (by rw [HLEN.out]; omega)⟩
          obtain ⟨hb1, hb2, hb3⟩ := HSZ.out b (List.mem_of_getElem? hbk)
          obtain ⟨c0, c1, c2⟩ := HC.out _ HX.drop k b hbk
          have hgl := World.block_lt_of_cell? _ _ c0
          have HS : Hid (outR a l (k + 1) = stepR a O k b) := Lib.hid (by
            conv => lhs; unfold outR
            rw [hbk, hO.out])
          have HOK : Hid (OutOk (stepR a O k b) (k + 1)) := Lib.hid (hOk.out.step hb3)
          have hsz := hOk.out.2
          obtain ⟨S, hS⟩ : ∃ S, stepR a O k b = S := ⟨_, rfl⟩
          rw [hS] at HS HOK
          have HD : Hid (∀ (p : BlkS) (nl : Nat) og, O[nl]? = some p → ∀ w' X, Holds e w' (row (.slice (some ⟨og, 0, none⟩) no oc) 60 3 no (O.flatMap rcells) :: X) → w'.cell? ⟨og, nl * 3 + 1, none⟩ = some (.int .i64 p.size) ∧ w'.cell? ⟨og, nl * 3 + 2, none⟩ = some (.bool p.used)) := Lib.hid fun p nl og hp w' X h' => by
            have hnl := (List.getElem?_eq_some_iff.1 hp).1
            obtain ⟨g2, o2, e2, rr⟩ := (row.reads h').at (by omega)
            cases e2
            have r1 := rr _ _ (rcells_at hp 1 (by omega))
            have r2 := rr _ _ (rcells_at hp 2 (by omega))
            rw [Nat.zero_add] at r1 r2
            exact ⟨r1, r2⟩
          by_cases h0 : no = 0
          · have hS2 : S = O ++ [⟨b.o, b.size, b.used && !decide (k = a)⟩] := by
              rw [← hS]
              unfold stepR
              rw [List.getElem?_eq_none (by omega)]
            have i5 : (no : Int) - 1 = -1 := by omega
            clear hno hO hOk hS HD hsz h0
            by_cases hka : k = a
            · have hf : isR z b = true := by
                have h1 := HA0.out
                rw [← hka, hbk] at h1
                cases h1
                exact HAB.out
              subst hka
              obtain ⟨bo, bs, bu⟩ := b
              obtain rfl : bu = true := by unfold isR at hf; simp at hf; exact hf.1
              dsimp only at *
              have HQ : Hid (S = O ++ [⟨bo, bs, false⟩]) := Lib.hid (by rw [hS2]; simp)
              clear hf hbk hS2
              have HA : Holds e ((wr.alloc (.cells #[.int .i64 bo, .int .i64 bs, .bool false] 60)).alloc (.cells #[.int .i64 bo, .int .i64 bs, .bool false] 60)) (row (.slice oa no oc) 60 3 no (O.flatMap rcells) :: R) := ((HX.alloc _).drop.alloc _).drop
              have HRL := reads_lits (wr.alloc (.cells #[.int .i64 bo, .int .i64 bs, .bool false] 60)) [.int .i64 bo, .int .i64 bs, .bool false] 60 1 3 rfl
              rw [World.size_alloc] at HRL
              clear HX
              go_wp2_with (at_builtin; refine wpList_append_sl rfl (.tmp 92) _ _ rfl 60 3 24 elem_rb _ no (O.flatMap rcells) rfl HA (.slice (some ⟨wr.heap.size + 1, 0, none⟩) 1 1) 1 [.int .i64 bo, .int .i64 bs, .bool false] rfl HRL (by simp [Value.oneCell']) ?_ ?_ ?_)
              · unfold maxLen; omega
              · omega
              intro v5 w5 H5
              have HF : Hid (Holds e w5 (row v5 60 3 S.length (S.flatMap rcells) :: R)) := Lib.hid (by
                rw [HQ.out, List.length_append, List.length_singleton, HNO.out, List.flatMap_append]
                exact H5)
              clear HA HRL H5
              go_wp2_with fail
              go_roundw
              case rel => exact ⟨k + 1, S, by omega, by go_num, Lib.hid HS.out.symm, HOK, HF.out⟩
              case measure => simp [Go.RowKit.intOf]; omega
            · have q1 : ((k : Int) == (a : Int)) = false := by simp; omega
              obtain ⟨bo, bs, bu⟩ := b
              dsimp only at *
              have HQ : Hid (S = O ++ [⟨bo, bs, bu⟩]) := Lib.hid (by rw [hS2]; simp [hka])
              clear hbk hS2 hka
              have HA : Holds e ((wr.alloc (.cells #[.int .i64 bo, .int .i64 bs, .bool bu] 60)).alloc (.cells #[.int .i64 bo, .int .i64 bs, .bool bu] 60)) (row (.slice oa no oc) 60 3 no (O.flatMap rcells) :: R) := ((HX.alloc _).drop.alloc _).drop
              have HRL := reads_lits (wr.alloc (.cells #[.int .i64 bo, .int .i64 bs, .bool bu] 60)) [.int .i64 bo, .int .i64 bs, .bool bu] 60 1 3 rfl
              rw [World.size_alloc] at HRL
              clear HX
              go_wp2_with (at_builtin; refine wpList_append_sl rfl (.tmp 92) _ _ rfl 60 3 24 elem_rb _ no (O.flatMap rcells) rfl HA (.slice (some ⟨wr.heap.size + 1, 0, none⟩) 1 1) 1 [.int .i64 bo, .int .i64 bs, .bool bu] rfl HRL (by simp [Value.oneCell']) ?_ ?_ ?_)
              · unfold maxLen; omega
              · omega
              intro v5 w5 H5
              have HF : Hid (Holds e w5 (row v5 60 3 S.length (S.flatMap rcells) :: R)) := Lib.hid (by
                rw [HQ.out, List.length_append, List.length_singleton, HNO.out, List.flatMap_append]
                exact H5)
              clear HA HRL H5
              go_wp2_with fail
              go_roundw
              case rel => exact ⟨k + 1, S, by omega, by go_num, Lib.hid HS.out.symm, HOK, HF.out⟩
              case measure => simp [Go.RowKit.intOf]; omega
          · obtain ⟨nl, hnl⟩ : ∃ nl, no - 1 = nl := ⟨_, rfl⟩
            have i5 : (no : Int) - 1 = (nl : Int) := by omega
            obtain ⟨p, hp⟩ : ∃ p, O[nl]? = some p := ⟨_, List.getElem?_eq_getElem (by omega)⟩
            have hpz := hsz p (List.mem_of_getElem? hp)
            obtain ⟨og, hog1⟩ := row.zero HX (by omega)
            subst hog1
            replace HD := Lib.hid (HD.out p nl og hp)
            obtain ⟨d1, d2⟩ := HD.out _ _ HX
            have hog := World.block_lt_of_cell? _ _ d2
            have HP := Lib.hid hp
            have hS2 : S = if p.used = false ∧ (b.used = false ∨ k = a) ∧ (k = a ∨ k = a + 1) then O.set nl ⟨p.o, p.size + b.size, false⟩ else O ++ [⟨b.o, b.size, b.used && !decide (k = a)⟩] := by
              rw [← hS]
              unfold stepR
              rw [hno, hnl, hp]
            have dl : decide ((0 : Int) ≤ (nl : Int)) = true := by simp
            have nlb : nl ≤ 65536 ∧ nl < no := by omega
            obtain ⟨nlb1, nlb2⟩ := nlb
            obtain ⟨po, ps, pu⟩ := p
            dsimp only at *
            have hps : ps ≤ 4294967296 := by omega
            clear hno hO hOk hS hsz hnl hp hpz
            by_cases hka : k = a
            · have hf : isR z b = true := by
                have h1 := HA0.out
                rw [← hka, hbk] at h1
                cases h1
                exact HAB.out
              subst hka
              obtain ⟨bo, bs, bu⟩ := b
              obtain rfl : bu = true := by unfold isR at hf; simp at hf; exact hf.1
              dsimp only at *
              clear hf hbk
              cases pu
              · have HQ : Hid (S = O.set nl ⟨po, ps + bs, false⟩) := Lib.hid (by rw [hS2, if_pos ⟨rfl, .inr rfl, .inl rfl⟩])
                clear hS2
                obtain ⟨ns, hns⟩ : ∃ ns, ps + bs = ns := ⟨_, rfl⟩
                have i7 : (ps : Int) + (bs : Int) = (ns : Int) := by omega
                have HN : Holds e (wr.alloc (.cells #[.int .i64 bo, .int .i64 bs, .bool false] 60)) (pts wr.heap.size (.cells #[.int .i64 bo, .int .i64 bs, .bool false] 60 (0, 0)) :: row (.slice (some ⟨og, 0, none⟩) no oc) 60 3 no (O.flatMap rcells) :: R) := HX.alloc _
                have HQ2 : Hid (S = O.set nl ⟨po, ns, false⟩) := Lib.hid (by rw [← hns]; exact HQ.out)
                have nsb : ns ≤ 8589934592 := by omega
                go_wp2_with fail
                obtain ⟨bb, hbb⟩ : ∃ bb, wr.heap.size = bb := ⟨_, rfl⟩
                rw [hbb] at HN ⊢
                clear HX d1 d2 c0 c1 c2 hgl hog hns HQ
                refine code_at HN fun w2 H2 => ?_
                have H2d := H2.drew
                obtain ⟨d1, d2⟩ := HD.out _ _ H2.drop
                obtain ⟨f1, f2⟩ := HD.out _ _ H2d.drop
                have d3 := H2.cells 1
                have f3 := H2d.cells 1
                have d4 := row.frozen (i := nl * 3 + 1) H2.drop
                have f4 := row.frozen (i := nl * 3 + 1) H2d.drop
                have HSt := row.setS (i := nl * 3 + 1) H2d.drop (.int .i64 ns)
                rw [Nat.zero_add] at d4 f4 HSt
                have hnl3 : nl * 3 + 1 = nl * 3 + 1 := rfl
                have HF : Hid (Holds e (w2.drew.setCell ⟨og, nl * 3 + 1, none⟩ (.int .i64 ns)) (row (.slice (some ⟨og, 0, none⟩) no oc) 60 3 S.length (S.flatMap rcells) :: R)) := Lib.hid (by
                  rw [HQ2.out, List.length_set, HNO.out, ← rcells_set HP.out ns]
                  exact HSt)
                clear H2 H2d HN HSt hbb
                go_region
                go_wp2_with fail
                go_roundw
                case rel => exact ⟨k + 1, S, by omega, by go_num, Lib.hid HS.out.symm, HOK, HF.out⟩
                case measure => simp [Go.RowKit.intOf]; omega
              · have HQ : Hid (S = O ++ [⟨bo, bs, false⟩]) := Lib.hid (by rw [hS2, if_neg (by rintro ⟨h, _⟩; cases h)]; simp)
                clear hS2 HD d1
                have HA : Holds e ((wr.alloc (.cells #[.int .i64 bo, .int .i64 bs, .bool false] 60)).alloc (.cells #[.int .i64 bo, .int .i64 bs, .bool false] 60)) (row (.slice (some ⟨og, 0, none⟩) no oc) 60 3 no (O.flatMap rcells) :: R) := ((HX.alloc _).drop.alloc _).drop
                have HRL := reads_lits (wr.alloc (.cells #[.int .i64 bo, .int .i64 bs, .bool false] 60)) [.int .i64 bo, .int .i64 bs, .bool false] 60 1 3 rfl
                rw [World.size_alloc] at HRL
                clear HX
                go_wp2_with (at_builtin; refine wpList_append_sl rfl (.tmp 92) _ _ rfl 60 3 24 elem_rb _ no (O.flatMap rcells) rfl HA (.slice (some ⟨wr.heap.size + 1, 0, none⟩) 1 1) 1 [.int .i64 bo, .int .i64 bs, .bool false] rfl HRL (by simp [Value.oneCell']) ?_ ?_ ?_)
                · unfold maxLen; omega
                · omega
                intro v5 w5 H5
                have HF : Hid (Holds e w5 (row v5 60 3 S.length (S.flatMap rcells) :: R)) := Lib.hid (by
                  rw [HQ.out, List.length_append, List.length_singleton, HNO.out, List.flatMap_append]
                  exact H5)
                clear HA HRL H5
                go_wp2_with fail
                go_roundw
                case rel => exact ⟨k + 1, S, by omega, by go_num, Lib.hid HS.out.symm, HOK, HF.out⟩
                case measure => simp [Go.RowKit.intOf]; omega
            · have q1 : ((k : Int) == (a : Int)) = false := by simp; omega
              obtain ⟨a1, ha1⟩ : ∃ a1, a + 1 = a1 := ⟨_, rfl⟩
              have i6 : (a : Int) + 1 = (a1 : Int) := by omega
              obtain ⟨bo, bs, bu⟩ := b
              dsimp only at *
              have q2 : (bu && !decide (k = a)) = bu := by simp [hka]
              rw [q2] at hS2
              have a1b : a1 ≤ 65537 := by omega
              clear hbk q2
              cases pu
              · cases bu
                · by_cases hk1 : k = a1
                  · have HQ : Hid (S = O.set nl ⟨po, ps + bs, false⟩) := Lib.hid (by rw [hS2, if_pos ⟨rfl, .inl rfl, .inr (by omega)⟩])
                    have q3 : ((k : Int) == (a1 : Int)) = true := by simp; omega
                    clear hS2 ha1 hk1 hka
                    obtain ⟨ns, hns⟩ : ∃ ns, ps + bs = ns := ⟨_, rfl⟩
                    have i7 : (ps : Int) + (bs : Int) = (ns : Int) := by omega
                    have HN : Holds e (wr.alloc (.cells #[.int .i64 bo, .int .i64 bs, .bool false] 60)) (pts wr.heap.size (.cells #[.int .i64 bo, .int .i64 bs, .bool false] 60 (0, 0)) :: row (.slice (some ⟨og, 0, none⟩) no oc) 60 3 no (O.flatMap rcells) :: R) := HX.alloc _
                    have HQ2 : Hid (S = O.set nl ⟨po, ns, false⟩) := Lib.hid (by rw [← hns]; exact HQ.out)
                    have nsb : ns ≤ 8589934592 := by omega
                    go_wp2_with fail
                    obtain ⟨bb, hbb⟩ : ∃ bb, wr.heap.size = bb := ⟨_, rfl⟩
                    rw [hbb] at HN ⊢
                    clear HX d1 d2 c0 c1 c2 hgl hog hns HQ
                    refine code_at HN fun w2 H2 => ?_
                    have H2d := H2.drew
                    obtain ⟨d1, d2⟩ := HD.out _ _ H2.drop
                    obtain ⟨f1, f2⟩ := HD.out _ _ H2d.drop
                    have d3 := H2.cells 1
                    have f3 := H2d.cells 1
                    have d4 := row.frozen (i := nl * 3 + 1) H2.drop
                    have f4 := row.frozen (i := nl * 3 + 1) H2d.drop
                    have HSt := row.setS (i := nl * 3 + 1) H2d.drop (.int .i64 ns)
                    rw [Nat.zero_add] at d4 f4 HSt
                    have hnl3 : nl * 3 + 1 = nl * 3 + 1 := rfl
                    have HF : Hid (Holds e (w2.drew.setCell ⟨og, nl * 3 + 1, none⟩ (.int .i64 ns)) (row (.slice (some ⟨og, 0, none⟩) no oc) 60 3 S.length (S.flatMap rcells) :: R)) := Lib.hid (by
                      rw [HQ2.out, List.length_set, HNO.out, ← rcells_set HP.out ns]
                      exact HSt)
                    clear H2 H2d HN HSt hbb
                    go_region
                    go_wp2_with fail
                    go_roundw
                    case rel => exact ⟨k + 1, S, by omega, by go_num, Lib.hid HS.out.symm, HOK, HF.out⟩
                    case measure => simp [Go.RowKit.intOf]; omega
                  · have HQ : Hid (S = O ++ [⟨bo, bs, false⟩]) := Lib.hid (by rw [hS2, if_neg (by omega)])
                    have q3 : ((k : Int) == (a1 : Int)) = false := by simp; omega
                    clear hS2 HD d1 ha1 hk1 hka
                    have HA : Holds e ((wr.alloc (.cells #[.int .i64 bo, .int .i64 bs, .bool false] 60)).alloc (.cells #[.int .i64 bo, .int .i64 bs, .bool false] 60)) (row (.slice (some ⟨og, 0, none⟩) no oc) 60 3 no (O.flatMap rcells) :: R) := ((HX.alloc _).drop.alloc _).drop
                    have HRL := reads_lits (wr.alloc (.cells #[.int .i64 bo, .int .i64 bs, .bool false] 60)) [.int .i64 bo, .int .i64 bs, .bool false] 60 1 3 rfl
                    rw [World.size_alloc] at HRL
                    clear HX
                    go_wp2_with (at_builtin; refine wpList_append_sl rfl (.tmp 92) _ _ rfl 60 3 24 elem_rb _ no (O.flatMap rcells) rfl HA (.slice (some ⟨wr.heap.size + 1, 0, none⟩) 1 1) 1 [.int .i64 bo, .int .i64 bs, .bool false] rfl HRL (by simp [Value.oneCell']) ?_ ?_ ?_)
                    · unfold maxLen; omega
                    · omega
                    intro v5 w5 H5
                    have HF : Hid (Holds e w5 (row v5 60 3 S.length (S.flatMap rcells) :: R)) := Lib.hid (by
                      rw [HQ.out, List.length_append, List.length_singleton, HNO.out, List.flatMap_append]
                      exact H5)
                    clear HA HRL H5
                    go_wp2_with fail
                    go_roundw
                    case rel => exact ⟨k + 1, S, by omega, by go_num, Lib.hid HS.out.symm, HOK, HF.out⟩
                    case measure => simp [Go.RowKit.intOf]; omega
                · have HQ : Hid (S = O ++ [⟨bo, bs, true⟩]) := Lib.hid (by rw [hS2, if_neg (by rintro ⟨_, h | h, _⟩ <;> first | omega | cases h)])
                  clear hS2 HD d1 ha1 hka
                  have HA : Holds e ((wr.alloc (.cells #[.int .i64 bo, .int .i64 bs, .bool true] 60)).alloc (.cells #[.int .i64 bo, .int .i64 bs, .bool true] 60)) (row (.slice (some ⟨og, 0, none⟩) no oc) 60 3 no (O.flatMap rcells) :: R) := ((HX.alloc _).drop.alloc _).drop
                  have HRL := reads_lits (wr.alloc (.cells #[.int .i64 bo, .int .i64 bs, .bool true] 60)) [.int .i64 bo, .int .i64 bs, .bool true] 60 1 3 rfl
                  rw [World.size_alloc] at HRL
                  clear HX
                  go_wp2_with (at_builtin; refine wpList_append_sl rfl (.tmp 92) _ _ rfl 60 3 24 elem_rb _ no (O.flatMap rcells) rfl HA (.slice (some ⟨wr.heap.size + 1, 0, none⟩) 1 1) 1 [.int .i64 bo, .int .i64 bs, .bool true] rfl HRL (by simp [Value.oneCell']) ?_ ?_ ?_)
                  · unfold maxLen; omega
                  · omega
                  intro v5 w5 H5
                  have HF : Hid (Holds e w5 (row v5 60 3 S.length (S.flatMap rcells) :: R)) := Lib.hid (by
                    rw [HQ.out, List.length_append, List.length_singleton, HNO.out, List.flatMap_append]
                    exact H5)
                  clear HA HRL H5
                  go_wp2_with fail
                  go_roundw
                  case rel => exact ⟨k + 1, S, by omega, by go_num, Lib.hid HS.out.symm, HOK, HF.out⟩
                  case measure => simp [Go.RowKit.intOf]; omega
              · have HQ : Hid (S = O ++ [⟨bo, bs, bu⟩]) := Lib.hid (by rw [hS2, if_neg (by rintro ⟨h, _⟩; cases h)])
                clear hS2 HD d1 ha1 hka
                have HA : Holds e ((wr.alloc (.cells #[.int .i64 bo, .int .i64 bs, .bool bu] 60)).alloc (.cells #[.int .i64 bo, .int .i64 bs, .bool bu] 60)) (row (.slice (some ⟨og, 0, none⟩) no oc) 60 3 no (O.flatMap rcells) :: R) := ((HX.alloc _).drop.alloc _).drop
                have HRL := reads_lits (wr.alloc (.cells #[.int .i64 bo, .int .i64 bs, .bool bu] 60)) [.int .i64 bo, .int .i64 bs, .bool bu] 60 1 3 rfl
                rw [World.size_alloc] at HRL
                clear HX
                go_wp2_with (at_builtin; refine wpList_append_sl rfl (.tmp 92) _ _ rfl 60 3 24 elem_rb _ no (O.flatMap rcells) rfl HA (.slice (some ⟨wr.heap.size + 1, 0, none⟩) 1 1) 1 [.int .i64 bo, .int .i64 bs, .bool bu] rfl HRL (by simp [Value.oneCell']) ?_ ?_ ?_)
                · unfold maxLen; omega
                · omega
                intro v5 w5 H5
                have HF : Hid (Holds e w5 (row v5 60 3 S.length (S.flatMap rcells) :: R)) := Lib.hid (by
                  rw [HQ.out, List.length_append, List.length_singleton, HNO.out, List.flatMap_append]
                  exact H5)
                clear HA HRL H5
                go_wp2_with fail
                go_roundw
                case rel => exact ⟨k + 1, S, by omega, by go_num, Lib.hid HS.out.symm, HOK, HF.out⟩
                case measure => simp [Go.RowKit.intOf]; omega
        · obtain rfl : len = k := by omega
          have HO : Hid (O = outR a l len) := hO
          clear hO hOk hno
          go_wp2_with fail
          go_ret2
          exact ⟨_, rfl, by rw [← HO.out, HNO.out]; exact HX⟩
end
end Go.Proofs.Ytjbphdjheklhbaa
