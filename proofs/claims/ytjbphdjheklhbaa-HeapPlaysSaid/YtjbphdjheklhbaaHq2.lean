/-
  Layer 47: the reference's Alloc, where a block is found.
-/
import Derived.Test.YtjbphdjheklhbaaHq1
namespace Go.Proofs.Ytjbphdjheklhbaa
open Go.RowKit

theorem reads_len {w : World} {a : Option Addr} {size n c : Nat} {xs : List Value} (h : Reads w (.slice a n c) size n xs) : n ≤ c := by
  rcases h.2 with ⟨h, h'⟩ | ⟨a', c', h, h', _⟩
  · omega
  · cases h; exact h'
theorem rcells_take (l : List BlkS) (k : Nat) : (l.take k).flatMap rcells = (l.flatMap rcells).take (k * 3) := by
  by_cases hk : k ≤ l.length
  · conv => rhs; rw [← List.take_append_drop k l, List.flatMap_append]
    rw [List.take_left' (by rw [rcells_len, List.length_take]; omega)]
  · rw [List.take_of_length_le (by omega), List.take_of_length_le (by rw [rcells_len]; omega)]
theorem rcells_drop (l : List BlkS) (k : Nat) (hk : k ≤ l.length) : (l.drop k).flatMap rcells = (l.flatMap rcells).drop (k * 3) := by
  conv => rhs; rw [← List.take_append_drop k l, List.flatMap_append]
  rw [List.drop_left' (by rw [rcells_len, List.length_take]; omega)]

section
variable {e : Env} {w : World} {R : List HP}
set_option maxRecDepth 100000 in
set_option maxHeartbeats 4000000 in
theorem refAllocYes {l : List BlkS} (hl : RbOk l) (n : Int) (i : Nat) (b : BlkS) (hi : l[i]? = some b) (h0 : ∀ (j : Nat) y, j < i → l[j]? = some y → fitsR n y = false) (hf : fitsR n b = true)
    (v : Value) (hr : ∀ w', Holds e w' R → Reads w' v 3 l.length (l.flatMap rcells)) (H : Holds e w R) :
    Calls Try.prog 21 #[v, .int .i64 n] w (RetEx e (fun v' => .tuple #[v', .int .i64 ((b.o + 8 : Nat) : Int)]) (fun v' => row v' 60 3 (takeR l i b (szOf n)).length ((takeR l i b (szOf n)).flatMap rcells) :: R)) := by
  obtain ⟨ad, c, rfl⟩ := (hr w H).shape
  obtain ⟨len, hlen⟩ : ∃ len, l.length = len := ⟨_, rfl⟩
  have HLEN := Lib.hid hlen
  have hlb := hl.len
  have HSZ := Lib.hid hl.sz
  have H0 := Lib.hid h0
  have hil := (List.getElem?_eq_some_iff.1 hi).1
  rw [hlen] at hr hlb hil
  obtain ⟨hb1, hb2, hb3⟩ := hl.sz b (List.mem_of_getElem? hi)
  have HR := Lib.hid hr
  have hcap := reads_len (hr w H)
  obtain ⟨g, o, rfl, _⟩ := (hr w H).at (by omega)
  have HC : Hid (∀ w', Holds e w' R → w'.cell? ⟨g, o + i * 3, none⟩ = some (.int .i64 b.o) ∧ w'.cell? ⟨g, o + i * 3 + 1, none⟩ = some (.int .i64 b.size) ∧ w'.cell? ⟨g, o + i * 3 + 2, none⟩ = some (.bool b.used)) := Lib.hid fun w' h' => by
    obtain ⟨g2, o2, e2, rr⟩ := (hr w' h').at (by omega)
    cases e2
    exact ⟨rr _ _ (rcells_at hi 0 (by omega)), by rw [Nat.add_assoc]; exact rr _ _ (rcells_at hi 1 (by omega)), by rw [Nat.add_assoc]; exact rr _ _ (rcells_at hi 2 (by omega))⟩
  obtain ⟨bo, bs, bu⟩ := b
  dsimp only at *
  unfold fitsR at hf
  obtain rfl : bu = false := by cases bu <;> simp at hf ⊢
  have hnb : n ≤ (bs : Int) - 8 := by simpa using hf
  obtain ⟨s1, s2, s3, s4, s5⟩ := szOf_bd (n := n) (by omega)
  have hsz : szOf n ≤ bs + 15 := by omega
  obtain ⟨sz, hsz2⟩ : ∃ sz, szOf n = sz := ⟨_, rfl⟩
  rw [hsz2] at s1 s2 s3 s4 s5 hsz ⊢
  have HTR : Hid ((takeR l i ⟨bo, bs, false⟩ sz).length = (if sz < bs then i + 2 else i + 1) + (len - (i + 1)) ∧ takeR l i ⟨bo, bs, false⟩ sz = (l.take i ++ [⟨bo, sz, true⟩] ++ (if sz < bs then [⟨bo + sz, bs - sz, false⟩] else [])) ++ l.drop (i + 1)) := Lib.hid (by
    unfold takeR rest
    dsimp only
    split
    · refine ⟨?_, by simp⟩
      simp [hlen]; omega
    · refine ⟨?_, by simp⟩
      simp [hlen]; omega)
  obtain ⟨x, hx⟩ : ∃ x, bs - 8 = x := ⟨_, rfl⟩
  have i1 : (bs : Int) - 8 = (x : Int) := by omega
  have xb : x ≤ 65536 := by omega
  have d1 : decide ((x : Int) < n) = false := by simp; omega
  have ig : (i : Int) + 1 ≤ (len : Int) := by omega
  have ig0 : (0 : Int) ≤ (i : Int) := by omega
  have igc : (i : Int) ≤ (c : Int) := by omega
  have igc2 : i ≤ c := by omega
  have ig2 : (0 : Int) ≤ (i : Int) + 1 := by omega
  have ig3 : ((i : Int) + 1).toNat = i + 1 := by omega
  have ig4 : IntKind.i64.wrap ((i : Int) + 1) = (i : Int) + 1 := IntWalk.i64_in _ (by omega)
  obtain ⟨bo8, hbo8⟩ : ∃ bo8, bo + 8 = bo8 := ⟨_, rfl⟩
  have io : (bo : Int) + 8 = (bo8 : Int) := by omega
  have bo8b : bo8 ≤ 65544 := by omega
  rw [hlen, hbo8]
  clear hr h0 hl hi hf hlen hx hsz2 hbo8
  go_enter Try.func21, Try.ntmps21
  go_wp2_with fail
  go_loopw [6] (fun z wr => ∃ k : Nat, k ≤ i ∧ z = .int .i64 (k : Nat) ∧ Holds e wr R) (fun z _ => i - (Go.RowKit.intOf z).toNat)
  case atStart => exact ⟨0, by omega, rfl, H⟩
  case round =>
    clear H
    obtain ⟨k, hk, rfl, HX⟩ := hrel
    by_cases hlt : k < i
    · obtain ⟨y, hyk⟩ : ∃ y, l[k]? = some y := ⟨_, List.getElem?_eq_getElem (by rw [HLEN.out]; omega)⟩
      obtain ⟨hy1, hy2, hy3⟩ := HSZ.out y (List.mem_of_getElem? hyk)
      have hf := H0.out k y hlt hyk
      obtain ⟨g2, o2, e2, rr⟩ := (HR.out _ HX).at (by omega)
      cases e2
      have c1 : wr.cell? ⟨g, o + k * 3 + 1, none⟩ = some (.int .i64 y.size) := by rw [Nat.add_assoc]; exact rr _ _ (rcells_at hyk 1 (by omega))
      have c2 : wr.cell? ⟨g, o + k * 3 + 2, none⟩ = some (.bool y.used) := by rw [Nat.add_assoc]; exact rr _ _ (rcells_at hyk 2 (by omega))
      have HXX := Lib.hid HX
      unfold fitsR at hf
      obtain ⟨yo, ys, yu⟩ := y
      dsimp only at *
      obtain ⟨x', hx'⟩ : ∃ x', ys - 8 = x' := ⟨_, rfl⟩
      have i2 : (ys : Int) - 8 = (x' : Int) := by omega
      have xb2 : x' ≤ 65536 := by omega
      have hkl : k < len := by omega
      clear rr hyk HX
      cases yu
      · have hlt' : (x' : Int) < n := by simp at hf; omega
        have d2 : decide ((x' : Int) < n) = true := by simp; exact hlt'
        clear hf hx'
        go_wp2_with fail
        go_roundw
        case rel => exact ⟨k + 1, by omega, by go_num, HXX.out⟩
        case measure => simp [Go.RowKit.intOf]; omega
      · clear hf hx'
        go_wp2_with fail
        go_roundw
        case rel => exact ⟨k + 1, by omega, by go_num, HXX.out⟩
        case measure => simp [Go.RowKit.intOf]; omega
    · obtain rfl : k = i := by omega
      obtain ⟨c0, c1, c2⟩ := HC.out _ HX
      go_wp2_with fail
      go_loopw [7] (fun s wr2 => ∃ j : Nat, s = .int .i64 (j : Nat) ∧ 16 ≤ j ∧ j ≤ sz ∧ j % 16 = 0 ∧ Holds e wr2 R) (fun s _ => sz - (Go.RowKit.intOf s).toNat)
      case atStart => exact ⟨16, rfl, by omega, by omega, by omega, HX⟩
      case round =>
        clear HX c0 c1 c2
        rename_i wro _ _ _ _ _ _ _ _
        obtain ⟨j, rfl, hj1, hj2, hj3, HX⟩ := hrel
        obtain ⟨jx, hjx⟩ : ∃ jx, j - 8 = jx := ⟨_, rfl⟩
        have i3 : (j : Int) - 8 = (jx : Int) := by omega
        have jxb : jx ≤ 65536 := by omega
        by_cases hjs : j < sz
        · have d3 : decide ((jx : Int) < n) = true := by simp; omega
          have HXX := Lib.hid HX
          clear HX hjx
          go_wp2_with fail
          go_roundw
          case rel => exact ⟨j + 16, by go_num, by omega, by omega, by omega, HXX.out⟩
          case measure => simp [Go.RowKit.intOf]; omega
        · obtain rfl : sz = j := by omega
          have d3 : decide ((jx : Int) < n) = false := by simp; omega
          clear hjx
          go_wp2_with (at_builtin; refine wpList_append_sl rfl (.tmp 36) _ _ rfl 60 3 24 elem_rb _ 0 [] rfl (row.made (HX.alloc _) (Nat.le_refl _) (by decide) rfl rfl) _ k ((l.take k).flatMap rcells) rfl ?_ (rcells_one _) ?_ ?_ ?_)
          · rw [rcells_take]; exact reads_take (HR.out _ (HX.alloc _).drop) (by omega)
          · unfold maxLen; omega
          · omega
          intro v3 w3 H3
          obtain ⟨c0, c1, c2⟩ := HC.out _ H3.drop
          have HA : Holds e (w3.alloc (.cells #[.int .i64 bo, .int .i64 sz, .bool true] 60)) (row v3 60 3 k ((l.take k).flatMap rcells) :: R) := (H3.alloc _).drop
          have HRL := reads_lits w3 [.int .i64 bo, .int .i64 sz, .bool true] 60 1 3 rfl
          clear HX H3
          go_wp2_with (at_builtin; refine wpList_append_sl rfl (.tmp 41) _ _ rfl 60 3 24 elem_rb v3 k ((l.take k).flatMap rcells) rfl HA (.slice (some ⟨w3.heap.size, 0, none⟩) 1 1) 1 [.int .i64 bo, .int .i64 sz, .bool true] rfl HRL (by simp [Value.oneCell']) ?_ ?_ ?_)
          · unfold maxLen; omega
          · omega
          intro v4 w4 H4
          replace H4 : Holds e w4 (row v4 60 3 (k + 1) ((l.take k ++ [(⟨bo, sz, true⟩ : BlkS)]).flatMap rcells) :: R) := by
            rw [List.flatMap_append]; exact H4
          clear HA HRL c0 c1 c2
          obtain ⟨c0, c1, c2⟩ := HC.out _ H4.drop
          by_cases hgt : sz < bs
          · rw [if_pos hgt, if_pos hgt] at HTR
            obtain ⟨bsz, hbsz⟩ : ∃ bsz, bs - sz = bsz := ⟨_, rfl⟩
            rw [hbsz] at HTR
            have i5 : (bs : Int) - (sz : Int) = (bsz : Int) := by omega
            obtain ⟨bos, hbos⟩ : ∃ bos, bo + sz = bos := ⟨_, rfl⟩
            rw [hbos] at HTR
            have i6 : (bo : Int) + (sz : Int) = (bos : Int) := by omega
            have bb : bsz ≤ 65536 ∧ bos ≤ 140000 := by omega
            obtain ⟨bb1, bb2⟩ := bb
            have d4 : decide ((sz : Int) < (bs : Int)) = true := by simp; omega
            have hw1 : IntKind.i64.wrap (bos : Int) = bos := IntWalk.i64_in _ (by omega)
            have hw2 : IntKind.i64.wrap (bsz : Int) = bsz := IntWalk.i64_in _ (by omega)
            have HD := H4.drew
            obtain ⟨e0, e1, e2⟩ := HC.out _ HD.drop
            have f1 : k + 1 + 1 ≤ maxLen := by unfold maxLen; omega
            have f2 : (k + 1 + 1) * 24 ≤ 140737488355328 := by omega
            clear hbsz hbos
            go_wp2_with fail
            go_region_law (first | (refine step_append_sl rfl (.tmp 58) (.tmp 74) _ rfl 60 3 24 elem_rb _ (k + 1) ((l.take k ++ [(⟨bo, sz, true⟩ : BlkS)]).flatMap rcells) rfl _ 1 (rcells ⟨bos, bsz, false⟩) rfl (fun x hx => by simp [rcells] at hx; rcases hx with rfl | rfl | rfl <;> rfl) f1 f2 (by first | exact HD | exact (HD.alloc _).swap | exact (HD.alloc _).drop) (by exact reads_lits w4 (rcells ⟨bos, bsz, false⟩) _ 1 3 rfl) ?_; intro v5 w5 H5))
            all_goals
              have H7 : Holds e w5 (row v5 60 3 (k + 2) ((l.take k ++ [(⟨bo, sz, true⟩ : BlkS)] ++ [(⟨bos, bsz, false⟩ : BlkS)]).flatMap rcells) :: R) := by
                rw [List.flatMap_append (xs := l.take k ++ [_])]
                first | exact H5 | exact H5.d1
              clear HD H5 e0 e1 e2 f1 f2
              by_cases hc : c = k + 1
              · subst hc
                have hx0 : len - (k + 1) = 0 := by omega
                have hxd : l.drop (k + 1) = [] := List.drop_of_length_le (by rw [HLEN.out]; omega)
                have HX0 := Lib.hid hx0
                have HXD := Lib.hid hxd
                clear hx0 hxd
                obtain ⟨d0, d1, d2⟩ := HC.out _ (H7).drop
                have hgl := World.block_lt_of_cell? _ _ d0
                have H5d := (H7).drew
                obtain ⟨e0, e1, e2⟩ := HC.out _ H5d.drop
                have hrd : Reads (w5).drew ((.slice (some ⟨g, o, none⟩) (len - (k + 1)) 0)) 3 (len - (k + 1)) ((l.drop (k + 1)).flatMap rcells) := (by rw [HX0.out, HXD.out]; show Reads _ _ 3 0 []; exact reads_none' _ _ _ _)
                have f1 : (k + 2) + (len - (k + 1)) ≤ maxLen := by unfold maxLen; omega
                have f2 : ((k + 2) + (len - (k + 1))) * 24 ≤ 140737488355328 := by omega
                have hw3 : IntKind.i64.wrap (bo8 : Int) = bo8 := IntWalk.i64_in _ (by omega)
                clear c0 c1 c2
                go_wp2_with fail
                go_region_law (first | (refine step_append_sl rfl (.tmp 76) (.tmp 80) _ rfl 60 3 24 elem_rb v5 ((k + 2)) (((l.take k ++ [(⟨bo, sz, true⟩ : BlkS)] ++ [(⟨bos, bsz, false⟩ : BlkS)])).flatMap rcells) (by go_simp) ((.slice (some ⟨g, o, none⟩) (len - (k + 1)) 0)) (len - (k + 1)) ((l.drop (k + 1)).flatMap rcells) (by go_simp) (rcells_one _) f1 f2 (by exact H5d) (by exact hrd) ?_; intro v6 w6 H6; obtain ⟨u0, u1, u2⟩ := HC.out _ H6.drop))
                all_goals go_wp2
                all_goals go_ret2
                all_goals
                  refine ⟨v6, by go_simp, ?_⟩
                  have hq := HTR.out
                  rw [hq.1, hq.2]
                  rw [← List.flatMap_append] at H6
                  exact H6
              · have hck : ¬ c = k + 1 := hc
                clear hc
                obtain ⟨d0, d1, d2⟩ := HC.out _ (H7).drop
                have hgl := World.block_lt_of_cell? _ _ d0
                have H5d := (H7).drew
                obtain ⟨e0, e1, e2⟩ := HC.out _ H5d.drop
                have hrd : Reads (w5).drew ((.slice (some ⟨g, o + (k + 1) * 3, none⟩) (len - (k + 1)) (c - (k + 1)))) 3 (len - (k + 1)) ((l.drop (k + 1)).flatMap rcells) := (by rw [rcells_drop _ _ (by rw [HLEN.out]; omega)]; exact reads_drop (HR.out _ H5d.drop) (by omega))
                have f1 : (k + 2) + (len - (k + 1)) ≤ maxLen := by unfold maxLen; omega
                have f2 : ((k + 2) + (len - (k + 1))) * 24 ≤ 140737488355328 := by omega
                have hw3 : IntKind.i64.wrap (bo8 : Int) = bo8 := IntWalk.i64_in _ (by omega)
                clear c0 c1 c2
                go_wp2_with fail
                go_region_law (first | (refine step_append_sl rfl (.tmp 76) (.tmp 80) _ rfl 60 3 24 elem_rb v5 ((k + 2)) (((l.take k ++ [(⟨bo, sz, true⟩ : BlkS)] ++ [(⟨bos, bsz, false⟩ : BlkS)])).flatMap rcells) (by go_simp) ((.slice (some ⟨g, o + (k + 1) * 3, none⟩) (len - (k + 1)) (c - (k + 1)))) (len - (k + 1)) ((l.drop (k + 1)).flatMap rcells) (by go_simp) (rcells_one _) f1 f2 (by exact H5d) (by exact hrd) ?_; intro v6 w6 H6; obtain ⟨u0, u1, u2⟩ := HC.out _ H6.drop))
                all_goals go_wp2
                all_goals go_ret2
                all_goals
                  refine ⟨v6, by go_simp, ?_⟩
                  have hq := HTR.out
                  rw [hq.1, hq.2]
                  rw [← List.flatMap_append] at H6
                  exact H6
          · rw [if_neg hgt, if_neg hgt] at HTR
            have d4 : decide ((sz : Int) < (bs : Int)) = false := by simp; omega
            rw [List.append_nil] at HTR
            by_cases hc : c = k + 1
            · subst hc
              have hx0 : len - (k + 1) = 0 := by omega
              have hxd : l.drop (k + 1) = [] := List.drop_of_length_le (by rw [HLEN.out]; omega)
              have HX0 := Lib.hid hx0
              have HXD := Lib.hid hxd
              clear hx0 hxd
              obtain ⟨d0, d1, d2⟩ := HC.out _ (H4).drop
              have hgl := World.block_lt_of_cell? _ _ d0
              have H5d := (H4).drew
              obtain ⟨e0, e1, e2⟩ := HC.out _ H5d.drop
              have hrd : Reads (w4).drew ((.slice (some ⟨g, o, none⟩) (len - (k + 1)) 0)) 3 (len - (k + 1)) ((l.drop (k + 1)).flatMap rcells) := (by rw [HX0.out, HXD.out]; show Reads _ _ 3 0 []; exact reads_none' _ _ _ _)
              have f1 : (k + 1) + (len - (k + 1)) ≤ maxLen := by unfold maxLen; omega
              have f2 : ((k + 1) + (len - (k + 1))) * 24 ≤ 140737488355328 := by omega
              have hw3 : IntKind.i64.wrap (bo8 : Int) = bo8 := IntWalk.i64_in _ (by omega)
              clear c0 c1 c2
              go_wp2_with fail
              go_region_law (first | (refine step_append_sl rfl (.tmp 76) (.tmp 80) _ rfl 60 3 24 elem_rb v4 ((k + 1)) (((l.take k ++ [(⟨bo, sz, true⟩ : BlkS)])).flatMap rcells) (by go_simp) ((.slice (some ⟨g, o, none⟩) (len - (k + 1)) 0)) (len - (k + 1)) ((l.drop (k + 1)).flatMap rcells) (by go_simp) (rcells_one _) f1 f2 (by exact H5d) (by exact hrd) ?_; intro v6 w6 H6; obtain ⟨u0, u1, u2⟩ := HC.out _ H6.drop))
              all_goals go_wp2
              all_goals go_ret2
              all_goals
                refine ⟨v6, by go_simp, ?_⟩
                have hq := HTR.out
                rw [hq.1, hq.2]
                rw [← List.flatMap_append] at H6
                exact H6
            · have hck : ¬ c = k + 1 := hc
              clear hc
              obtain ⟨d0, d1, d2⟩ := HC.out _ (H4).drop
              have hgl := World.block_lt_of_cell? _ _ d0
              have H5d := (H4).drew
              obtain ⟨e0, e1, e2⟩ := HC.out _ H5d.drop
              have hrd : Reads (w4).drew ((.slice (some ⟨g, o + (k + 1) * 3, none⟩) (len - (k + 1)) (c - (k + 1)))) 3 (len - (k + 1)) ((l.drop (k + 1)).flatMap rcells) := (by rw [rcells_drop _ _ (by rw [HLEN.out]; omega)]; exact reads_drop (HR.out _ H5d.drop) (by omega))
              have f1 : (k + 1) + (len - (k + 1)) ≤ maxLen := by unfold maxLen; omega
              have f2 : ((k + 1) + (len - (k + 1))) * 24 ≤ 140737488355328 := by omega
              have hw3 : IntKind.i64.wrap (bo8 : Int) = bo8 := IntWalk.i64_in _ (by omega)
              clear c0 c1 c2
              go_wp2_with fail
              go_region_law (first | (refine step_append_sl rfl (.tmp 76) (.tmp 80) _ rfl 60 3 24 elem_rb v4 ((k + 1)) (((l.take k ++ [(⟨bo, sz, true⟩ : BlkS)])).flatMap rcells) (by go_simp) ((.slice (some ⟨g, o + (k + 1) * 3, none⟩) (len - (k + 1)) (c - (k + 1)))) (len - (k + 1)) ((l.drop (k + 1)).flatMap rcells) (by go_simp) (rcells_one _) f1 f2 (by exact H5d) (by exact hrd) ?_; intro v6 w6 H6; obtain ⟨u0, u1, u2⟩ := HC.out _ H6.drop))
              all_goals go_wp2
              all_goals go_ret2
              all_goals
                refine ⟨v6, by go_simp, ?_⟩
                have hq := HTR.out
                rw [hq.1, hq.2]
                rw [← List.flatMap_append] at H6
                exact H6
end
end Go.Proofs.Ytjbphdjheklhbaa
