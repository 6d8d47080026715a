import Derived.Test.YtheblkofemobdaaGreatMg4
/-
  gunnylaw21: lives, the walk.
-/
namespace Go.Proofs.YtheblkofemobdaaGreat
open Go.RowKit

theorem free20 {M : RamS} {S : PoolS} (hP : PoolOk M S) (hk : Keep (RamS.new 20) M) : M.fr.free.length + M.fr.count [3] = 20 := by
  have hl : M.fr.owner.length = 20 := by rw [hk.olen]; rfl
  rw [← free_count hP.pgs.fr, count_sum, count_sum, hl]
  have h0 : ∀ j : Nat, M.fr.own (j : Int) = 0 ∨ M.fr.own (j : Int) = 3 := fun j => by
    rcases hk.own j with h | ⟨_, h⟩
    · left
      rw [h]
      unfold FrS.own RamS.new FrS.new
      rw [if_pos (Int.natCast_nonneg j), Int.toNat_natCast]
      dsimp only
      rw [List.getD_eq_getElem?_getD, List.getElem?_replicate]
      split <;> rfl
    · exact h
  generalize 20 = n
  induction n with
  | zero => rfl
  | succ n ih =>
    rw [List.range_succ, List.map_append, List.map_append, List.sum_append, List.sum_append]
    rcases h0 n with h | h
    · simp [h]; simp at ih; omega
    · simp [h]; simp at ih; omega
def z2048 : List UInt8 := List.replicate 2048 0
theorem z2048_len : z2048.length = 2048 := List.length_replicate
structure Fill (k : Nat) (M : RamS) (S : PoolS) (L : List OE) : Prop where
  kept : Kept M S L
  half : Half L
  pat : Pat (PG S L)
  len : L.length = k
  keep : Keep (RamS.new 20) M
theorem Fill.step {k : Nat} {M : RamS} {S : PoolS} {L : List OE} (h : Fill k M S L) (hk : k < 6) : ∃ (x : Nat) (q : RamS × PoolS), x ≤ 512 ∧ S.alloc M z2048 = (((x : Int), 0), q) ∧ Fill (k + 1) q.1 q.2 (L ++ [((x : Int), z2048)]) := by
  have h1 := free20 h.kept.ok h.keep
  rw [h.kept.frames31 h.half, h.kept.sp31 h.half h.pat, h.len] at h1
  have h2 : needP S z2048.length ≤ 1 := by
    unfold needP
    split
    · omega
    · rw [z2048_len, show (2048 - 1) / 64 = 31 by omega, cls31.2]; omega
  have h3 := h.kept.many
  rw [h.len] at h3
  obtain ⟨x, A⟩ := alloc_law h.kept.ok (d := z2048) (by rw [z2048_len]; omega) (by rw [z2048_len]; omega) (by omega) (by omega)
  obtain ⟨h4, h5⟩ := h.kept.alloc31 h.half h.pat z2048_len A
  refine ⟨x, (S.alloc M z2048).2, A.h2, ?_, (h.kept.alloc A).1, h4, h5, by rw [List.length_append, h.len]; rfl, h.keep.trans A.keep⟩
  rw [← A.res]
def frL : Nat → List OE → List OE
  | 0, L => L
  | j + 1, L => (frL j L).eraseIdx j
structure Emp (j : Nat) (S6 : PoolS) (L6 : List OE) (M : RamS) (S : PoolS) : Prop where
  kept : Kept M S (frL j L6)
  same : ∀ q ∈ frL j L6, S.tab.all q.1.toNat = S6.tab.all q.1.toNat
theorem Emp.step {j : Nat} {S6 S : PoolS} {L6 : List OE} {M : RamS} (h : Emp j S6 L6 M S) {q0 : OE} (hq : (frL j L6)[j]? = some q0) : ∃ q : RamS × PoolS, S.free1 M q0.1 = (true, q) ∧ Emp (j + 1) S6 L6 q.1 q.2 := by
  obtain ⟨q, h1, h2, h3⟩ := free_at h.kept hq
  refine ⟨q, h1, h2, fun q' hq' => ?_⟩
  have hm : q' ∈ frL j L6 := List.mem_of_mem_eraseIdx hq'
  have hne : q'.1 ≠ q0.1 := fun e => by
    have h4 := h2.at hq'
    obtain ⟨i, hi⟩ := List.getElem?_of_mem hm
    have := nodup_at h.kept.nd hi hq e
    subst this
    have h5 := h2.nd
    have : q' = q0 := by rw [hi] at hq; cases hq; rfl
    subst this
    have h6 : (frL i L6) = (frL i L6).take i ++ q' :: (frL i L6).drop (i + 1) := (split_at hq).1
    have h7 := h.kept.nd
    have hq' : q' ∈ (frL i L6).eraseIdx i := hq'
    rw [List.eraseIdx_eq_take_drop_succ] at hq'
    rw [h6, List.map_append, List.map_cons, List.nodup_append] at h7
    obtain ⟨a1, a2, a3⟩ := h7
    rcases List.mem_append.1 hq' with h8 | h8
    · exact a3 _ (List.mem_map.2 ⟨q', h8, rfl⟩) _ (List.mem_cons_self) rfl
    · exact (List.nodup_cons.1 a2).1 (List.mem_map.2 ⟨q', h8, rfl⟩)
  obtain ⟨b1, b2, _⟩ := TabS.inb_yes (h2.at hq').1
  obtain ⟨c1, c2, _⟩ := TabS.inb_yes (h.kept.at (List.mem_of_getElem? hq)).1
  rw [h3 q'.1.toNat (by omega)]
  exact h.same q' hm
theorem Emp.done {S6 S : PoolS} {L6 : List OE} {M M6 : RamS} (h : Emp 3 S6 L6 M S) (hF : Fill 6 M6 S6 L6) : Half (frL 3 L6) ∧ (frL 3 L6).length = 3 ∧ (PG S (frL 3 L6)).Nodup := by
  have hl := hF.len
  match L6, hl with
  | [q1, q2, q3, q4, q5, q6], _ =>
    have e : frL 3 [q1, q2, q3, q4, q5, q6] = [q2, q4, q6] := rfl
    have hs := h.same
    rw [e] at hs ⊢
    refine ⟨fun q hq => hF.half q (by simp at hq ⊢; rcases hq with rfl | rfl | rfl <;> simp), rfl, ?_⟩
    unfold PG
    rw [List.map_cons, List.map_cons, List.map_cons, List.map_nil, hs q2 (by simp), hs q4 (by simp), hs q6 (by simp)]
    have p := hF.pat
    have n1 := p 1 3 _ _ rfl rfl
    have n2 := p 1 5 _ _ rfl rfl
    have n3 := p 3 5 _ _ rfl rfl
    have m1 : (S6.tab.all q2.1.toNat).page.toNat ≠ (S6.tab.all q4.1.toNat).page.toNat := fun e => by have := n1.1 e; omega
    have m2 : (S6.tab.all q2.1.toNat).page.toNat ≠ (S6.tab.all q6.1.toNat).page.toNat := fun e => by have := n2.1 e; omega
    have m3 : (S6.tab.all q4.1.toNat).page.toNat ≠ (S6.tab.all q6.1.toNat).page.toNat := fun e => by have := n3.1 e; omega
    simp [m1, m2, m3]
theorem frL_at {j : Nat} {L : List OE} (hj : j < 3) (hl : L.length = 6) : ∃ q0, (frL j L)[j]? = some q0 ∧ L[2 * j]? = some q0 := by
  match L, hl with
  | [q1, q2, q3, q4, q5, q6], _ =>
    obtain rfl | rfl | rfl : j = 0 ∨ j = 1 ∨ j = 2 := by omega
    · exact ⟨q1, rfl, rfl⟩
    · exact ⟨q3, rfl, rfl⟩
    · exact ⟨q5, rfl, rfl⟩
section
variable {e : Env} {w : World} {R : List HP}
set_option maxRecDepth 100000 in
set_option maxHeartbeats 4000000 in
theorem lives21 (H : Holds e w R) : Calls Tryz.prog 33 #[] w (Ret e (.bool true) R) := by
  have hM := mk8 2048 (by omega) 2048 rfl
  have HZ : Hid (z2048 = List.replicate 2048 0) := Lib.hid rfl
  go_enter Tryz.func33, Tryz.ntmps33
  go_wp2_with fail
  refine (ramNew_yes H 20 (by omega) (by omega)).mono ?_
  rintro en w1 ⟨rb, rfl, H1⟩
  go_wp2_with fail
  refine (poNew H1 rb).mono ?_
  rintro en w2 ⟨⟨pb, tb⟩, rfl, H2⟩
  have H3 := row.nil 3 1 H2
  have HF0 : Hid (Fill 0 (RamS.new 20) PoolS.new []) := Lib.hid ⟨Kept.new (by omega) (by omega), fun q hq => (by cases hq), fun i j x y hi => (by cases hi), rfl, Keep.refl _⟩
  clear H1 H H2
  go_wp2_with fail
  go_loopw [4, 5] (fun vl i wr => ∃ (k : Nat) (M : RamS) (S : PoolS) (L : List OE), k ≤ 6 ∧ i = .int .i64 (k : Nat) ∧ Hid (Fill k M S L) ∧ Holds e wr (row vl 3 1 k (ints (L.map (·.1))) :: poolH pb tb rb S :: ramH rb M :: R)) (fun _ i _ => 6 - (intOf i).toNat)
  case atStart => exact ⟨0, _, _, [], by omega, rfl, HF0, H3⟩
  case round =>
    obtain ⟨k, M, S, L, hk, rfl, HFI, HX⟩ := hrel
    obtain ⟨va, vc, rfl⟩ := row_shape HX
    clear H3 HF0
    by_cases hlt : k < 6
    · obtain ⟨x, q, hx5, e1, hF2⟩ := HFI.out.step hlt
      have HF2 := Lib.hid hF2
      have H4 : Holds e _ (bts (.slice (some ⟨wr.heap.size, 0, none⟩) 2048 2048) z2048 :: _) := bts_made HX 2048 (by unfold maxLen; omega)
      have H5 := H4.p2.p3.swap
      have CAL := poAlloc H5 HFI.out.kept.ok (.slice (some ⟨wr.heap.size, 0, none⟩) 2048 2048) z2048 (fun w'' h'' => bts.reads h'') (by rw [z2048_len]; omega)
      rw [e1] at CAL
      dsimp only at CAL
      have CAL := Lib.hid CAL
      clear H4 H5 HX hF2 e1
      go_wp2_with fail
      refine CAL.out.mono ?_
      rintro en w3 ⟨rfl, H6⟩
      have H7 := H6.p3.d3
      clear H6 CAL
      go_wp2_with (at_builtin; refine wpList_append_sl rfl _ _ _ rfl 3 1 8 elem_int _ _ (ints (L.map (·.1))) rfl ((H7.alloc _).swap) _ 1 (ints [(x : Int)]) rfl ?_ (ints_one _) ?_ ?_ ?_)
      · exact reads_lit w3 [(x : Int)] _ _ rfl
      · unfold maxLen; omega
      · omega
      intro v' w4 H8
      have HMP : Hid (ints ((L ++ [((x : Int), z2048)]).map (·.1)) = ints (L.map (·.1)) ++ ints [(x : Int)]) := Lib.hid (by rw [List.map_append, ints_append]; rfl)
      have H9 := Lib.hid (H8.swap.drop)
      clear H8 H7
      go_wp2_with fail
      go_roundw
      case rel => exact ⟨k + 1, q.1, q.2, L ++ [((x : Int), z2048)], by omega, by go_num, HF2, by rw [HMP.out]; exact H9.out⟩
      case measure => simp [intOf]; omega
    · have hk6 : 6 ≤ k := by omega
      have hki : ¬ (k : Int) < 6 := by omega
      have HK6 : Hid (k = 6) := Lib.hid (by omega)
      have HE0 : Hid (Emp 0 S L M S) := Lib.hid ⟨HFI.out.kept, fun _ _ => rfl⟩
      have HLL := Lib.hid (HFI.out.len.trans HK6.out)
      go_wp2_with fail
      go_loopw [8] (fun i wr => ∃ (j : Nat) (M' : RamS) (S' : PoolS), j ≤ 3 ∧ i = .int .i64 (j : Nat) ∧ Hid (Emp j S L M' S') ∧ Holds e wr (row (.slice va k vc) 3 1 k (ints (L.map (·.1))) :: poolH pb tb rb S' :: ramH rb M' :: R)) (fun i _ => 3 - (intOf i).toNat)
      case atStart => exact ⟨0, M, S, by omega, rfl, HE0, HX⟩
      case round =>
        obtain ⟨j, M', S', hj, rfl, HEM, HY⟩ := hrel
        clear HX HE0
        by_cases hlt2 : j < 3
        · obtain ⟨q0, hq0, hq1⟩ : ∃ q0, (frL j L)[j]? = some q0 ∧ L[2 * j]? = some q0 := frL_at hlt2 HLL.out
          obtain ⟨q, e1, hE2⟩ := HEM.out.step hq0
          have HE2 := Lib.hid hE2
          obtain ⟨g0, o0, rfl, hrd⟩ := (row.reads HY).at (by omega)
          have y0 : wr.cell? ⟨g0, o0 + 2 * j, none⟩ = some (.int .i64 q0.1) := hrd (2 * j) _ (ints_getS (by rw [List.getElem?_map, hq1]; rfl))
          have CFR := poFree (HY.imp fun _ => Sat.q2) HEM.out.kept.ok q0.1
          rw [e1] at CFR
          dsimp only at CFR
          have CFR := Lib.hid CFR
          clear hrd HY e1 hE2 hq0 hq1
          go_wp2_with fail
          refine CFR.out.mono ?_
          rintro en w5 ⟨rfl, H6⟩
          have H7 := H6.p2
          clear CFR H6 y0
          go_wp2_with fail
          go_roundw
          case rel => exact ⟨j + 1, q.1, q.2, by omega, by go_num, HE2, H7⟩
          case measure => simp [intOf]; omega
        · obtain rfl : j = 3 := by omega
          obtain ⟨hH, h3, hn⟩ := HEM.out.done (HK6.out ▸ HFI.out)
          obtain ⟨hg, hc⟩ := lives_a HEM.out.kept hH h3 hn
          have CG := mGain HEM.out.kept HY.drop
          rw [hg] at CG
          have CG := Lib.hid CG
          have CC := Lib.hid fun (w' : World) (h : Holds e w' (poolH pb tb rb S' :: ramH rb M' :: R)) => mCompact HEM.out.kept h
          rw [hc] at CC
          have CG2 : Hid (∀ w' (q : RamS × PoolS) Y, CompOk (frL 3 L) 64 q → Holds e w' (poolH pb tb rb q.2 :: Y) → q.1.fr.count [3] = 2 ∧ Calls Tryz.prog 67 #[.pointer (some ⟨pb, 0, none⟩), .slice none 0 0] w' (Ret e (.int .i64 0) (poolH pb tb rb q.2 :: Y))) := Lib.hid fun w' q Y hq h => by
            obtain ⟨h1, h2⟩ := lives_b hq hH h3
            have h4 := mGain hq.1 h
            rw [h1] at h4
            exact ⟨h2, h4⟩
          clear HY hH h3 hn hg hc
          go_wp2_with fail
          refine CG.out.mono ?_
          rintro en w6 ⟨rfl, H7⟩
          clear CG
          go_wp2_with fail
          refine (CC.out _ H7).mono ?_
          rintro en w7 ⟨q, rfl, H8⟩
          have hq := H8.purE
          obtain ⟨hc2, CG3⟩ := CG2.out _ _ _ hq H8.drop
          have CG3 := Lib.hid CG3
          dsimp only
          rw [hc2]
          clear CC H7 H8 hq CG2 hc2
          go_wp2_with fail
          refine CG3.out.mono ?_
          rintro en w8 ⟨rfl, H9⟩
          have H10 := H9.drop.drop
          clear CG3 H9
          go_wp2_with fail
          go_ret
          exact ⟨rfl, H10⟩
end
end Go.Proofs.YtheblkofemobdaaGreat

/-
  gunnylaw20: PoolKeeps, the walk.
-/
namespace Go.Proofs.YtheblkofemobdaaGreat
open Go.RowKit

section
variable {e : Env} {w : World} {R : List HP}
theorem whole20' {pb tb rb : Nat} {S : PoolS} {M : RamS} {vl : Value} {L : List OE} (hK : Kept M S L) (H : Holds e w (oH vl L :: poolH pb tb rb S :: ramH rb M :: R)) :
    Calls Tryz.prog 31 #[.pointer (some ⟨pb, 0, none⟩), vl] w (RetEx e (fun _ : RamS => .bool true) (fun M' => pur (Kept M' S L ∧ Keep M M') :: oH vl L :: poolH pb tb rb S :: ramH rb M' :: R)) := by
  refine (whole20 hK H.q2).mono ?_
  rintro en w' ⟨M', r1, r2⟩
  exact ⟨M', r1, r2.p3.swap⟩
set_option maxRecDepth 100000 in
set_option maxHeartbeats 4000000 in
theorem poolKeeps_walk (H : Holds e w R) (v : Value) (n : Nat) (xs : List Value) (hn : n ≤ 4611686018427387904) (hr : ∀ w', Holds e w' R → Reads w' v 4 n xs) (hD : ∀ i, i < n → ∃ d, DeedAt xs i d) (fr us : Int) (hfr : 0 ≤ fr ∧ fr ≤ 255) (hus : 0 ≤ us ∧ us ≤ 255) :
    Calls Tryz.prog 5 #[.int .u8 fr, .int .u8 us, v] w (Ret e (.bool true) R) := by
  have CG := great20 H v n xs hn hr hD
  obtain ⟨a, c, rfl⟩ := (hr w H).shape
  have HR := Lib.hid hr
  have HDD := Lib.hid hD
  clear hr hD
  obtain ⟨hf1, hf2⟩ := hfr
  obtain ⟨hu1, hu2⟩ := hus
  obtain ⟨F, hF⟩ : ∃ F : Nat, 8 + fr % 40 = (F : Int) := ⟨(8 + fr % 40).toNat, by omega⟩
  obtain ⟨U, hU⟩ : ∃ U : Nat, us % 10 = (U : Int) := ⟨(us % 10).toNat, by omega⟩
  have hF8 : 8 ≤ F := by omega
  have hF96 : F ≤ 96 := by omega
  have hU10 : U ≤ 10 := by omega
  go_enter Tryz.func5, Tryz.ntmps5
  go_wp2_with fail
  refine CG.mono ?_
  rintro en w1 ⟨gb, rfl, H1⟩
  clear CG H
  cases gb with
  | true =>
    go_wp2_with fail
    refine (lives20 H1.drop).mono ?_
    rintro en w2 ⟨rfl, H2⟩
    clear H1
    go_wp2_with fail
    go_ret
    exact ⟨rfl, H2⟩
  | false =>
    have H2 := H1.drop
    clear H1
    go_wp2_with fail
    refine (ramNew_yes H2 F hF8 hF96).mono ?_
    rintro en w3 ⟨rb, rfl, H3⟩
    clear H2
    go_wp2_with fail
    refine (poNew H3 rb).mono ?_
    rintro en w4 ⟨⟨pb, tb⟩, rfl, H4⟩
    clear H3
    go_wp2_with fail
    go_loopw [10] (fun i wr => ∃ (k : Nat) (M : RamS), k ≤ U ∧ i = .int .i64 (k : Nat) ∧ Hid (Kept M PoolS.new []) ∧ Holds e wr (poolH pb tb rb PoolS.new :: ramH rb M :: R)) (fun i _ => U - (intOf i).toNat)
    case atStart => exact ⟨0, _, by omega, rfl, Lib.hid (Kept.new hF8 hF96), H4⟩
    case round =>
      obtain ⟨k, M, hk, rfl, HK, HX⟩ := hrel
      clear H4
      by_cases hlt : k < U
      · have hki : (k : Int) < U := by omega
        have CT := Lib.hid (takeAny HK.out HX.swap)
        clear HX
        go_wp2_with fail
        refine CT.out.mono ?_
        rintro en w5 ⟨p, rfl, H5⟩
        have HK2 := Lib.hid H5.purE
        have H6 := H5.drop.swap
        clear CT H5
        go_wp2_with fail
        go_roundw
        case rel => exact ⟨k + 1, p.1, by omega, by go_num, HK2, H6⟩
        case measure => simp [intOf]; omega
      · have hki : ¬ (k : Int) < U := by omega
        clear hk
        obtain ⟨u, hu⟩ : ∃ u, M.fr.count [1] = u := ⟨_, rfl⟩
        obtain ⟨f, X, hf, HF, hback⟩ := ram_fr HX.swap
        have HB := Lib.hid hback
        have CC := Lib.hid (ramCount ((HF.alloc (.cells #[.int .i64 1] 3)).drop) 1 (.slice (some ⟨wr.heap.size, 0, none⟩) 1 1) (fun n => Reads.drewN (reads_lit1 wr (.int .i64 1) 3)))
        rw [hu] at CC
        have HKU : Hid (Kept M PoolS.new [] ∧ M.fr.count [1] = u) := Lib.hid ⟨HK.out, hu⟩
        clear HF hback HX hu HK hlt
        go_wp2_with fail
        refine CC.out.mono ?_
        rintro en w5 ⟨rfl, H5⟩
        have H6 := o_nil ((HB.out _ H5).swap)
        clear CC H5 HB hf hki hU10 hU
        go_wp2_with fail
        go_loopw [12, 13] (fun vx i wr => ∃ (k : Nat) (M : RamS) (S : PoolS) (L : List OE), k ≤ n ∧ i = .int .i64 (k : Nat) ∧ Hid (Kept M S L ∧ M.fr.count [1] = u) ∧ Holds e wr (oH vx L :: poolH pb tb rb S :: ramH rb M :: R)) (fun _ i _ => n - (intOf i).toNat)
        case atStart => exact ⟨0, M, _, [], by omega, rfl, HKU, H6⟩
        case round =>
          clear H6 HKU
          obtain ⟨k, M, S, L, hk, rfl, HKU, HX⟩ := hrel
          obtain ⟨la, lc, hlv⟩ := o_shape HX
          subst hlv
          have hL512 := HKU.out.1.len512
          by_cases hlt : k < n
          · obtain ⟨d, hd⟩ := HDD.out k hlt
            obtain ⟨g, o, rfl, q0, q1, q2, q3⟩ := deed_cells (HR.out _ HX.drop.drop.drop) hlt hd
            obtain ⟨b11, b12⟩ := hd.b1
            obtain ⟨b21, b22⟩ := hd.b2
            obtain ⟨b31, b32⟩ := hd.b3
            have hki : (k : Int) < n := by omega
            clear hd
            obtain ⟨kd, nn, sz, sd⟩ := d
            dsimp only at q0 q1 q2 q3 b11 b12 b21 b22 b31 b32
            have H7 := HX.alloc (.cells #[.int .i64 kd, .int .i64 nn, .int .i64 sz, .int .u8 sd] 33)
            obtain ⟨bx, hbx⟩ : ∃ bx, wr.heap.size = bx := ⟨_, rfl⟩
            rw [hbx] at H7
            by_cases hk0 : kd = 0
            · subst hk0
              obtain ⟨m, hm⟩ : ∃ m : Nat, max 0 (min 9000 sz) = (m : Int) := ⟨(max 0 (min 9000 sz)).toNat, by omega⟩
              have hm9 : m ≤ 9000 := by omega
              have HBY := Lib.hid (bytes20 H7 m hm9 sd ⟨b31, b32⟩)
              clear HX
              go_wp2_with fail
              refine HBY.out.mono ?_
              rintro en w7 ⟨⟨vb, db⟩, rfl, H8⟩
              have hdb := H8.purE
              have CAL := Lib.hid (alloc20 (d := db) HKU.out.1 (by dsimp only at hdb; omega) H8.drop.d1.q3)
              clear HBY H7 H8 hdb q0 q1 q2 q3 hbx hm
              go_wp2_with fail
              refine CAL.out.mono ?_
              rintro en w8 ⟨⟨v2, L2, M2, S2⟩, rfl, H9⟩
              unfold allocPost at H9
              obtain ⟨hK2, hKp2⟩ := H9.purE
              have HKU2 : Hid (Kept M2 S2 L2 ∧ M2.fr.count [1] = u) := Lib.hid ⟨hK2, by rw [← HKU.out.2]; exact hKp2.count (by decide) (by decide)⟩
              have HX := H9.drop
              clear CAL H9 HKU hK2 hKp2
              have HKU := HKU2
              clear HKU2
              dsimp only at HX
              -- behind the switch: ok is true; HKU : Hid (Kept M2 S2 L2 ∧ M2.fr.count [1] = u); HX : oH :: poolH :: ramH :: R
              have CWH := Lib.hid (whole20' HKU.out.1 HX)
              go_wp2_with fail
              refine CWH.out.mono ?_
              rintro en w20 ⟨M9, rfl, HW⟩
              obtain ⟨hK9, hKp9⟩ := HW.purE
              have HKU9 : Hid (Kept M9 S2 L2 ∧ M9.fr.count [1] = u) := Lib.hid ⟨hK9, by rw [hKp9.count (by decide) (by decide)]; exact HKU.out.2⟩
              have HW2 := HW.drop
              obtain ⟨f9, X9, hf9, HF9, hback9⟩ := ram_fr HW2.p2
              have HB9 := Lib.hid hback9
              have CC9 := Lib.hid (ramCount ((HF9.alloc (.cells #[.int .i64 1] 3)).drop) 1 (.slice (some ⟨w20.heap.size, 0, none⟩) 1 1) (fun n => Reads.drewN (reads_lit1 w20 (.int .i64 1) 3)))
              rw [HKU9.out.2] at CC9
              clear CWH HW HW2 HF9 hback9 HX HKU hK9 hKp9
              go_wp2_with fail
              refine CC9.out.mono ?_
              rintro en w21 ⟨rfl, H21⟩
              have H22 := (HB9.out _ H21).q2
              clear CC9 H21 HB9 hf9
              go_wp2_with fail
              go_roundw
              case rel => exact ⟨k + 1, M9, S2, L2, by omega, by go_num, HKU9, H22⟩
              case measure => simp [intOf]; omega
            · by_cases hk1 : kd = 1
              · subst hk1
                obtain ⟨m, hm⟩ : ∃ m : Nat, max 0 (min 9000 sz) = (m : Int) := ⟨(max 0 (min 9000 sz)).toNat, by omega⟩
                have hm9 : m ≤ 9000 := by omega
                have HBY := Lib.hid (bytes20 H7 m hm9 sd ⟨b31, b32⟩)
                clear HX
                go_wp2_with fail
                refine HBY.out.mono ?_
                rintro en w7 ⟨⟨vb, db⟩, rfl, H8⟩
                have hdb := H8.purE
                have CAL := Lib.hid (alloc20 (d := db) HKU.out.1 (by dsimp only at hdb; omega) H8.drop.d1.q3)
                clear HBY H7 H8 hdb q0 q1 q2 q3 hbx hm
                go_wp2_with fail
                refine CAL.out.mono ?_
                rintro en w8 ⟨⟨v2, L2, M2, S2⟩, rfl, H9⟩
                unfold allocPost at H9
                obtain ⟨hK2, hKp2⟩ := H9.purE
                have HKU2 : Hid (Kept M2 S2 L2 ∧ M2.fr.count [1] = u) := Lib.hid ⟨hK2, by rw [← HKU.out.2]; exact hKp2.count (by decide) (by decide)⟩
                have HX := H9.drop
                clear CAL H9 HKU hK2 hKp2
                have HKU := HKU2
                clear HKU2
                dsimp only at HX
                -- behind the switch: ok is true; HKU : Hid (Kept M2 S2 L2 ∧ M2.fr.count [1] = u); HX : oH :: poolH :: ramH :: R
                have CWH := Lib.hid (whole20' HKU.out.1 HX)
                go_wp2_with fail
                refine CWH.out.mono ?_
                rintro en w20 ⟨M9, rfl, HW⟩
                obtain ⟨hK9, hKp9⟩ := HW.purE
                have HKU9 : Hid (Kept M9 S2 L2 ∧ M9.fr.count [1] = u) := Lib.hid ⟨hK9, by rw [hKp9.count (by decide) (by decide)]; exact HKU.out.2⟩
                have HW2 := HW.drop
                obtain ⟨f9, X9, hf9, HF9, hback9⟩ := ram_fr HW2.p2
                have HB9 := Lib.hid hback9
                have CC9 := Lib.hid (ramCount ((HF9.alloc (.cells #[.int .i64 1] 3)).drop) 1 (.slice (some ⟨w20.heap.size, 0, none⟩) 1 1) (fun n => Reads.drewN (reads_lit1 w20 (.int .i64 1) 3)))
                rw [HKU9.out.2] at CC9
                clear CWH HW HW2 HF9 hback9 HX HKU hK9 hKp9
                go_wp2_with fail
                refine CC9.out.mono ?_
                rintro en w21 ⟨rfl, H21⟩
                have H22 := (HB9.out _ H21).q2
                clear CC9 H21 HB9 hf9
                go_wp2_with fail
                go_roundw
                case rel => exact ⟨k + 1, M9, S2, L2, by omega, by go_num, HKU9, H22⟩
                case measure => simp [intOf]; omega
              · by_cases hk3 : kd = 3
                · subst hk3
                  by_cases hn0 : 0 ≤ nn ∧ nn < L.length
                  · obtain ⟨kn, rfl⟩ : ∃ kn : Nat, nn = (kn : Int) := ⟨nn.toNat, by omega⟩
                    have hkn : kn < L.length := by omega
                    obtain ⟨q, hq⟩ : ∃ q, L[kn]? = some q := ⟨_, List.getElem?_eq_getElem hkn⟩
                    obtain ⟨g2, o2, c2, vb2, hv2, y0, _, _⟩ := o_at hq H7.swap
                    cases hv2
                    have z1 : decide ((0 : Int) ≤ (kn : Int)) = true := decide_eq_true (by omega)
                    have z2 : decide ((kn : Int) < (L.length : Int)) = true := decide_eq_true (by omega)
                    have z3 : decide (kn < L.length) = true := decide_eq_true hkn
                    have z4 : (kn : Int) < (L.length : Int) := by omega
                    clear hn0 hq
                    have CSF := Lib.hid (shift20 HKU.out.1 (q.1) H7.drop)
                    clear HX
                    go_wp2_with fail
                    refine CSF.out.mono ?_
                    rintro en w8 ⟨⟨M2, S2⟩, rfl, H9⟩
                    unfold shiftPost at H9
                    obtain ⟨hK2, hKp2⟩ := H9.purE
                    have HKU2 : Hid (Kept M2 S2 L ∧ M2.fr.count [1] = u) := Lib.hid ⟨hK2, by rw [← HKU.out.2]; exact hKp2.count (by decide) (by decide)⟩
                    have HX := H9.drop
                    clear CSF H9 HKU hK2 hKp2 H7 q0 q1 q2 q3 hbx
                    have HKU := HKU2
                    clear HKU2
                    dsimp only at HX
                    -- behind the switch: ok is true; HKU : Hid (Kept M2 S2 L ∧ M2.fr.count [1] = u); HX : oH :: poolH :: ramH :: R
                    have CWH := Lib.hid (whole20' HKU.out.1 HX)
                    go_wp2_with fail
                    refine CWH.out.mono ?_
                    rintro en w20 ⟨M9, rfl, HW⟩
                    obtain ⟨hK9, hKp9⟩ := HW.purE
                    have HKU9 : Hid (Kept M9 S2 L ∧ M9.fr.count [1] = u) := Lib.hid ⟨hK9, by rw [hKp9.count (by decide) (by decide)]; exact HKU.out.2⟩
                    have HW2 := HW.drop
                    obtain ⟨f9, X9, hf9, HF9, hback9⟩ := ram_fr HW2.p2
                    have HB9 := Lib.hid hback9
                    have CC9 := Lib.hid (ramCount ((HF9.alloc (.cells #[.int .i64 1] 3)).drop) 1 (.slice (some ⟨w20.heap.size, 0, none⟩) 1 1) (fun n => Reads.drewN (reads_lit1 w20 (.int .i64 1) 3)))
                    rw [HKU9.out.2] at CC9
                    clear CWH HW HW2 HF9 hback9 HX HKU hK9 hKp9
                    go_wp2_with fail
                    refine CC9.out.mono ?_
                    rintro en w21 ⟨rfl, H21⟩
                    have H22 := (HB9.out _ H21).q2
                    clear CC9 H21 HB9 hf9
                    go_wp2_with fail
                    go_roundw
                    case rel => exact ⟨k + 1, M9, S2, L, by omega, by go_num, HKU9, H22⟩
                    case measure => simp [intOf]; omega
                  · by_cases hn1 : 0 ≤ nn
                    · have z1 : decide ((0 : Int) ≤ nn) = true := decide_eq_true hn1
                      have z2 : decide (nn < (L.length : Int)) = false := decide_eq_false (by omega)
                      clear hn0
                      have CSF := Lib.hid (shift20 HKU.out.1 (nn) H7.drop)
                      clear HX
                      go_wp2_with fail
                      refine CSF.out.mono ?_
                      rintro en w8 ⟨⟨M2, S2⟩, rfl, H9⟩
                      unfold shiftPost at H9
                      obtain ⟨hK2, hKp2⟩ := H9.purE
                      have HKU2 : Hid (Kept M2 S2 L ∧ M2.fr.count [1] = u) := Lib.hid ⟨hK2, by rw [← HKU.out.2]; exact hKp2.count (by decide) (by decide)⟩
                      have HX := H9.drop
                      clear CSF H9 HKU hK2 hKp2 H7 q0 q1 q2 q3 hbx
                      have HKU := HKU2
                      clear HKU2
                      dsimp only at HX
                      -- behind the switch: ok is true; HKU : Hid (Kept M2 S2 L ∧ M2.fr.count [1] = u); HX : oH :: poolH :: ramH :: R
                      have CWH := Lib.hid (whole20' HKU.out.1 HX)
                      go_wp2_with fail
                      refine CWH.out.mono ?_
                      rintro en w20 ⟨M9, rfl, HW⟩
                      obtain ⟨hK9, hKp9⟩ := HW.purE
                      have HKU9 : Hid (Kept M9 S2 L ∧ M9.fr.count [1] = u) := Lib.hid ⟨hK9, by rw [hKp9.count (by decide) (by decide)]; exact HKU.out.2⟩
                      have HW2 := HW.drop
                      obtain ⟨f9, X9, hf9, HF9, hback9⟩ := ram_fr HW2.p2
                      have HB9 := Lib.hid hback9
                      have CC9 := Lib.hid (ramCount ((HF9.alloc (.cells #[.int .i64 1] 3)).drop) 1 (.slice (some ⟨w20.heap.size, 0, none⟩) 1 1) (fun n => Reads.drewN (reads_lit1 w20 (.int .i64 1) 3)))
                      rw [HKU9.out.2] at CC9
                      clear CWH HW HW2 HF9 hback9 HX HKU hK9 hKp9
                      go_wp2_with fail
                      refine CC9.out.mono ?_
                      rintro en w21 ⟨rfl, H21⟩
                      have H22 := (HB9.out _ H21).q2
                      clear CC9 H21 HB9 hf9
                      go_wp2_with fail
                      go_roundw
                      case rel => exact ⟨k + 1, M9, S2, L, by omega, by go_num, HKU9, H22⟩
                      case measure => simp [intOf]; omega
                    · have z1 : decide ((0 : Int) ≤ nn) = false := decide_eq_false hn1
                      clear hn0
                      have CSF := Lib.hid (shift20 HKU.out.1 (nn) H7.drop)
                      clear HX
                      go_wp2_with fail
                      refine CSF.out.mono ?_
                      rintro en w8 ⟨⟨M2, S2⟩, rfl, H9⟩
                      unfold shiftPost at H9
                      obtain ⟨hK2, hKp2⟩ := H9.purE
                      have HKU2 : Hid (Kept M2 S2 L ∧ M2.fr.count [1] = u) := Lib.hid ⟨hK2, by rw [← HKU.out.2]; exact hKp2.count (by decide) (by decide)⟩
                      have HX := H9.drop
                      clear CSF H9 HKU hK2 hKp2 H7 q0 q1 q2 q3 hbx
                      have HKU := HKU2
                      clear HKU2
                      dsimp only at HX
                      -- behind the switch: ok is true; HKU : Hid (Kept M2 S2 L ∧ M2.fr.count [1] = u); HX : oH :: poolH :: ramH :: R
                      have CWH := Lib.hid (whole20' HKU.out.1 HX)
                      go_wp2_with fail
                      refine CWH.out.mono ?_
                      rintro en w20 ⟨M9, rfl, HW⟩
                      obtain ⟨hK9, hKp9⟩ := HW.purE
                      have HKU9 : Hid (Kept M9 S2 L ∧ M9.fr.count [1] = u) := Lib.hid ⟨hK9, by rw [hKp9.count (by decide) (by decide)]; exact HKU.out.2⟩
                      have HW2 := HW.drop
                      obtain ⟨f9, X9, hf9, HF9, hback9⟩ := ram_fr HW2.p2
                      have HB9 := Lib.hid hback9
                      have CC9 := Lib.hid (ramCount ((HF9.alloc (.cells #[.int .i64 1] 3)).drop) 1 (.slice (some ⟨w20.heap.size, 0, none⟩) 1 1) (fun n => Reads.drewN (reads_lit1 w20 (.int .i64 1) 3)))
                      rw [HKU9.out.2] at CC9
                      clear CWH HW HW2 HF9 hback9 HX HKU hK9 hKp9
                      go_wp2_with fail
                      refine CC9.out.mono ?_
                      rintro en w21 ⟨rfl, H21⟩
                      have H22 := (HB9.out _ H21).q2
                      clear CC9 H21 HB9 hf9
                      go_wp2_with fail
                      go_roundw
                      case rel => exact ⟨k + 1, M9, S2, L, by omega, by go_num, HKU9, H22⟩
                      case measure => simp [intOf]; omega
                · by_cases hk2 : kd = 2
                  · subst hk2
                    by_cases hn0 : 0 ≤ nn ∧ nn < L.length
                    · obtain ⟨kn, rfl⟩ : ∃ kn : Nat, nn = (kn : Int) := ⟨nn.toNat, by omega⟩
                      have hkn : kn < L.length := by omega
                      obtain ⟨q, hq⟩ : ∃ q, L[kn]? = some q := ⟨_, List.getElem?_eq_getElem hkn⟩
                      obtain ⟨g2, o2, c2, vb2, hv2, y0, _, _⟩ := o_at hq H7.swap
                      cases hv2
                      have z1 : decide ((0 : Int) ≤ (kn : Int)) = true := decide_eq_true (by omega)
                      have z2 : decide ((kn : Int) < (L.length : Int)) = true := decide_eq_true (by omega)
                      have z3 : decide (kn < L.length) = true := decide_eq_true hkn
                      have z4 : (kn : Int) < (L.length : Int) := by omega
                      clear hn0 hq
                      have hP := HKU.out.1.ok
                      rcases free_list HKU.out.1 (q.1) with ⟨hin, hat, hfr1⟩ | ⟨kk, ⟨M2, S2⟩, hkk, hat, hfr1, hK2, hKp2⟩
                      · have CD := Lib.hid (r20Drop_no L _ (q.1) (by omega) hat H7.drop)
                        have CF : Hid (∀ w' Y, Holds e w' (poolH pb tb rb S :: ramH rb M :: Y) → Calls Tryz.prog 13 #[.pointer (some ⟨pb, 0, none⟩), .int .i64 (q.1)] w' (Ret e (.bool false) (poolH pb tb rb S :: ramH rb M :: Y))) := Lib.hid fun w' Y h => by
                          have h1 := poFree h hP (q.1)
                          rw [hfr1] at h1
                          exact h1
                        clear hP hin hat hfr1 HX
                        go_wp2_with fail
                        refine CD.out.mono ?_
                        rintro en w7 ⟨rfl, H8⟩
                        clear CD H7 q0 q1 q2 q3 hbx
                        go_wp2_with fail
                        refine (CF.out _ _ H8.q2).mono ?_
                        rintro en w8 ⟨rfl, H9⟩
                        have HX := H9.p2
                        clear CF H8 H9
                        -- behind the switch: ok is true; HKU : Hid (Kept M S L ∧ M.fr.count [1] = u); HX : oH :: poolH :: ramH :: R
                        have CWH := Lib.hid (whole20' HKU.out.1 HX)
                        go_wp2_with fail
                        refine CWH.out.mono ?_
                        rintro en w20 ⟨M9, rfl, HW⟩
                        obtain ⟨hK9, hKp9⟩ := HW.purE
                        have HKU9 : Hid (Kept M9 S L ∧ M9.fr.count [1] = u) := Lib.hid ⟨hK9, by rw [hKp9.count (by decide) (by decide)]; exact HKU.out.2⟩
                        have HW2 := HW.drop
                        obtain ⟨f9, X9, hf9, HF9, hback9⟩ := ram_fr HW2.p2
                        have HB9 := Lib.hid hback9
                        have CC9 := Lib.hid (ramCount ((HF9.alloc (.cells #[.int .i64 1] 3)).drop) 1 (.slice (some ⟨w20.heap.size, 0, none⟩) 1 1) (fun n => Reads.drewN (reads_lit1 w20 (.int .i64 1) 3)))
                        rw [HKU9.out.2] at CC9
                        clear CWH HW HW2 HF9 hback9 HX HKU hK9 hKp9
                        go_wp2_with fail
                        refine CC9.out.mono ?_
                        rintro en w21 ⟨rfl, H21⟩
                        have H22 := (HB9.out _ H21).q2
                        clear CC9 H21 HB9 hf9
                        go_wp2_with fail
                        go_roundw
                        case rel => exact ⟨k + 1, M9, S, L, by omega, by go_num, HKU9, H22⟩
                        case measure => simp [intOf]; omega
                      · have CD := Lib.hid (r20Drop_yes L _ (q.1) (by omega) hkk hat H7.drop)
                        have CF : Hid (∀ w' Y, Holds e w' (poolH pb tb rb S :: ramH rb M :: Y) → Calls Tryz.prog 13 #[.pointer (some ⟨pb, 0, none⟩), .int .i64 (q.1)] w' (Ret e (.bool true) (poolH pb tb rb S2 :: ramH rb M2 :: Y))) := Lib.hid fun w' Y h => by
                          have h1 := poFree h hP (q.1)
                          rw [hfr1] at h1
                          exact h1
                        have HKU2 : Hid (Kept M2 S2 (L.eraseIdx kk) ∧ M2.fr.count [1] = u) := Lib.hid ⟨hK2, by rw [← HKU.out.2]; exact hKp2.count (by decide) (by decide)⟩
                        clear hP hat hfr1 HX hK2 hKp2 hkk
                        go_wp2_with fail
                        refine CD.out.mono ?_
                        rintro en w7 ⟨v7, rfl, H8⟩
                        clear CD H7 q0 q1 q2 q3 hbx
                        go_wp2_with fail
                        refine (CF.out _ _ H8.q2).mono ?_
                        rintro en w8 ⟨rfl, H9⟩
                        have HX := H9.p2
                        clear CF H8 H9 HKU
                        have HKU := HKU2
                        clear HKU2
                        -- behind the switch: ok is true; HKU : Hid (Kept M2 S2 (L.eraseIdx kk) ∧ M2.fr.count [1] = u); HX : oH :: poolH :: ramH :: R
                        have CWH := Lib.hid (whole20' HKU.out.1 HX)
                        go_wp2_with fail
                        refine CWH.out.mono ?_
                        rintro en w20 ⟨M9, rfl, HW⟩
                        obtain ⟨hK9, hKp9⟩ := HW.purE
                        have HKU9 : Hid (Kept M9 S2 (L.eraseIdx kk) ∧ M9.fr.count [1] = u) := Lib.hid ⟨hK9, by rw [hKp9.count (by decide) (by decide)]; exact HKU.out.2⟩
                        have HW2 := HW.drop
                        obtain ⟨f9, X9, hf9, HF9, hback9⟩ := ram_fr HW2.p2
                        have HB9 := Lib.hid hback9
                        have CC9 := Lib.hid (ramCount ((HF9.alloc (.cells #[.int .i64 1] 3)).drop) 1 (.slice (some ⟨w20.heap.size, 0, none⟩) 1 1) (fun n => Reads.drewN (reads_lit1 w20 (.int .i64 1) 3)))
                        rw [HKU9.out.2] at CC9
                        clear CWH HW HW2 HF9 hback9 HX HKU hK9 hKp9
                        go_wp2_with fail
                        refine CC9.out.mono ?_
                        rintro en w21 ⟨rfl, H21⟩
                        have H22 := (HB9.out _ H21).q2
                        clear CC9 H21 HB9 hf9
                        go_wp2_with fail
                        go_roundw
                        case rel => exact ⟨k + 1, M9, S2, (L.eraseIdx kk), by omega, by go_num, HKU9, H22⟩
                        case measure => simp [intOf]; omega
                    · by_cases hn1 : 0 ≤ nn
                      · have z1 : decide ((0 : Int) ≤ nn) = true := decide_eq_true hn1
                        have z2 : decide (nn < (L.length : Int)) = false := decide_eq_false (by omega)
                        clear hn0
                        have hP := HKU.out.1.ok
                        rcases free_list HKU.out.1 (nn) with ⟨hin, hat, hfr1⟩ | ⟨kk, ⟨M2, S2⟩, hkk, hat, hfr1, hK2, hKp2⟩
                        · have CD := Lib.hid (r20Drop_no L _ (nn) (by omega) hat H7.drop)
                          have CF : Hid (∀ w' Y, Holds e w' (poolH pb tb rb S :: ramH rb M :: Y) → Calls Tryz.prog 13 #[.pointer (some ⟨pb, 0, none⟩), .int .i64 (nn)] w' (Ret e (.bool false) (poolH pb tb rb S :: ramH rb M :: Y))) := Lib.hid fun w' Y h => by
                            have h1 := poFree h hP (nn)
                            rw [hfr1] at h1
                            exact h1
                          clear hP hin hat hfr1 HX
                          go_wp2_with fail
                          refine CD.out.mono ?_
                          rintro en w7 ⟨rfl, H8⟩
                          clear CD H7 q0 q1 q2 q3 hbx
                          go_wp2_with fail
                          refine (CF.out _ _ H8.q2).mono ?_
                          rintro en w8 ⟨rfl, H9⟩
                          have HX := H9.p2
                          clear CF H8 H9
                          -- behind the switch: ok is true; HKU : Hid (Kept M S L ∧ M.fr.count [1] = u); HX : oH :: poolH :: ramH :: R
                          have CWH := Lib.hid (whole20' HKU.out.1 HX)
                          go_wp2_with fail
                          refine CWH.out.mono ?_
                          rintro en w20 ⟨M9, rfl, HW⟩
                          obtain ⟨hK9, hKp9⟩ := HW.purE
                          have HKU9 : Hid (Kept M9 S L ∧ M9.fr.count [1] = u) := Lib.hid ⟨hK9, by rw [hKp9.count (by decide) (by decide)]; exact HKU.out.2⟩
                          have HW2 := HW.drop
                          obtain ⟨f9, X9, hf9, HF9, hback9⟩ := ram_fr HW2.p2
                          have HB9 := Lib.hid hback9
                          have CC9 := Lib.hid (ramCount ((HF9.alloc (.cells #[.int .i64 1] 3)).drop) 1 (.slice (some ⟨w20.heap.size, 0, none⟩) 1 1) (fun n => Reads.drewN (reads_lit1 w20 (.int .i64 1) 3)))
                          rw [HKU9.out.2] at CC9
                          clear CWH HW HW2 HF9 hback9 HX HKU hK9 hKp9
                          go_wp2_with fail
                          refine CC9.out.mono ?_
                          rintro en w21 ⟨rfl, H21⟩
                          have H22 := (HB9.out _ H21).q2
                          clear CC9 H21 HB9 hf9
                          go_wp2_with fail
                          go_roundw
                          case rel => exact ⟨k + 1, M9, S, L, by omega, by go_num, HKU9, H22⟩
                          case measure => simp [intOf]; omega
                        · have CD := Lib.hid (r20Drop_yes L _ (nn) (by omega) hkk hat H7.drop)
                          have CF : Hid (∀ w' Y, Holds e w' (poolH pb tb rb S :: ramH rb M :: Y) → Calls Tryz.prog 13 #[.pointer (some ⟨pb, 0, none⟩), .int .i64 (nn)] w' (Ret e (.bool true) (poolH pb tb rb S2 :: ramH rb M2 :: Y))) := Lib.hid fun w' Y h => by
                            have h1 := poFree h hP (nn)
                            rw [hfr1] at h1
                            exact h1
                          have HKU2 : Hid (Kept M2 S2 (L.eraseIdx kk) ∧ M2.fr.count [1] = u) := Lib.hid ⟨hK2, by rw [← HKU.out.2]; exact hKp2.count (by decide) (by decide)⟩
                          clear hP hat hfr1 HX hK2 hKp2 hkk
                          go_wp2_with fail
                          refine CD.out.mono ?_
                          rintro en w7 ⟨v7, rfl, H8⟩
                          clear CD H7 q0 q1 q2 q3 hbx
                          go_wp2_with fail
                          refine (CF.out _ _ H8.q2).mono ?_
                          rintro en w8 ⟨rfl, H9⟩
                          have HX := H9.p2
                          clear CF H8 H9 HKU
                          have HKU := HKU2
                          clear HKU2
                          -- behind the switch: ok is true; HKU : Hid (Kept M2 S2 (L.eraseIdx kk) ∧ M2.fr.count [1] = u); HX : oH :: poolH :: ramH :: R
                          have CWH := Lib.hid (whole20' HKU.out.1 HX)
                          go_wp2_with fail
                          refine CWH.out.mono ?_
                          rintro en w20 ⟨M9, rfl, HW⟩
                          obtain ⟨hK9, hKp9⟩ := HW.purE
                          have HKU9 : Hid (Kept M9 S2 (L.eraseIdx kk) ∧ M9.fr.count [1] = u) := Lib.hid ⟨hK9, by rw [hKp9.count (by decide) (by decide)]; exact HKU.out.2⟩
                          have HW2 := HW.drop
                          obtain ⟨f9, X9, hf9, HF9, hback9⟩ := ram_fr HW2.p2
                          have HB9 := Lib.hid hback9
                          have CC9 := Lib.hid (ramCount ((HF9.alloc (.cells #[.int .i64 1] 3)).drop) 1 (.slice (some ⟨w20.heap.size, 0, none⟩) 1 1) (fun n => Reads.drewN (reads_lit1 w20 (.int .i64 1) 3)))
                          rw [HKU9.out.2] at CC9
                          clear CWH HW HW2 HF9 hback9 HX HKU hK9 hKp9
                          go_wp2_with fail
                          refine CC9.out.mono ?_
                          rintro en w21 ⟨rfl, H21⟩
                          have H22 := (HB9.out _ H21).q2
                          clear CC9 H21 HB9 hf9
                          go_wp2_with fail
                          go_roundw
                          case rel => exact ⟨k + 1, M9, S2, (L.eraseIdx kk), by omega, by go_num, HKU9, H22⟩
                          case measure => simp [intOf]; omega
                      · have z1 : decide ((0 : Int) ≤ nn) = false := decide_eq_false hn1
                        clear hn0
                        have hP := HKU.out.1.ok
                        rcases free_list HKU.out.1 (nn) with ⟨hin, hat, hfr1⟩ | ⟨kk, ⟨M2, S2⟩, hkk, hat, hfr1, hK2, hKp2⟩
                        · have CD := Lib.hid (r20Drop_no L _ (nn) (by omega) hat H7.drop)
                          have CF : Hid (∀ w' Y, Holds e w' (poolH pb tb rb S :: ramH rb M :: Y) → Calls Tryz.prog 13 #[.pointer (some ⟨pb, 0, none⟩), .int .i64 (nn)] w' (Ret e (.bool false) (poolH pb tb rb S :: ramH rb M :: Y))) := Lib.hid fun w' Y h => by
                            have h1 := poFree h hP (nn)
                            rw [hfr1] at h1
                            exact h1
                          clear hP hin hat hfr1 HX
                          go_wp2_with fail
                          refine CD.out.mono ?_
                          rintro en w7 ⟨rfl, H8⟩
                          clear CD H7 q0 q1 q2 q3 hbx
                          go_wp2_with fail
                          refine (CF.out _ _ H8.q2).mono ?_
                          rintro en w8 ⟨rfl, H9⟩
                          have HX := H9.p2
                          clear CF H8 H9
                          -- behind the switch: ok is true; HKU : Hid (Kept M S L ∧ M.fr.count [1] = u); HX : oH :: poolH :: ramH :: R
                          have CWH := Lib.hid (whole20' HKU.out.1 HX)
                          go_wp2_with fail
                          refine CWH.out.mono ?_
                          rintro en w20 ⟨M9, rfl, HW⟩
                          obtain ⟨hK9, hKp9⟩ := HW.purE
                          have HKU9 : Hid (Kept M9 S L ∧ M9.fr.count [1] = u) := Lib.hid ⟨hK9, by rw [hKp9.count (by decide) (by decide)]; exact HKU.out.2⟩
                          have HW2 := HW.drop
                          obtain ⟨f9, X9, hf9, HF9, hback9⟩ := ram_fr HW2.p2
                          have HB9 := Lib.hid hback9
                          have CC9 := Lib.hid (ramCount ((HF9.alloc (.cells #[.int .i64 1] 3)).drop) 1 (.slice (some ⟨w20.heap.size, 0, none⟩) 1 1) (fun n => Reads.drewN (reads_lit1 w20 (.int .i64 1) 3)))
                          rw [HKU9.out.2] at CC9
                          clear CWH HW HW2 HF9 hback9 HX HKU hK9 hKp9
                          go_wp2_with fail
                          refine CC9.out.mono ?_
                          rintro en w21 ⟨rfl, H21⟩
                          have H22 := (HB9.out _ H21).q2
                          clear CC9 H21 HB9 hf9
                          go_wp2_with fail
                          go_roundw
                          case rel => exact ⟨k + 1, M9, S, L, by omega, by go_num, HKU9, H22⟩
                          case measure => simp [intOf]; omega
                        · have CD := Lib.hid (r20Drop_yes L _ (nn) (by omega) hkk hat H7.drop)
                          have CF : Hid (∀ w' Y, Holds e w' (poolH pb tb rb S :: ramH rb M :: Y) → Calls Tryz.prog 13 #[.pointer (some ⟨pb, 0, none⟩), .int .i64 (nn)] w' (Ret e (.bool true) (poolH pb tb rb S2 :: ramH rb M2 :: Y))) := Lib.hid fun w' Y h => by
                            have h1 := poFree h hP (nn)
                            rw [hfr1] at h1
                            exact h1
                          have HKU2 : Hid (Kept M2 S2 (L.eraseIdx kk) ∧ M2.fr.count [1] = u) := Lib.hid ⟨hK2, by rw [← HKU.out.2]; exact hKp2.count (by decide) (by decide)⟩
                          clear hP hat hfr1 HX hK2 hKp2 hkk
                          go_wp2_with fail
                          refine CD.out.mono ?_
                          rintro en w7 ⟨v7, rfl, H8⟩
                          clear CD H7 q0 q1 q2 q3 hbx
                          go_wp2_with fail
                          refine (CF.out _ _ H8.q2).mono ?_
                          rintro en w8 ⟨rfl, H9⟩
                          have HX := H9.p2
                          clear CF H8 H9 HKU
                          have HKU := HKU2
                          clear HKU2
                          -- behind the switch: ok is true; HKU : Hid (Kept M2 S2 (L.eraseIdx kk) ∧ M2.fr.count [1] = u); HX : oH :: poolH :: ramH :: R
                          have CWH := Lib.hid (whole20' HKU.out.1 HX)
                          go_wp2_with fail
                          refine CWH.out.mono ?_
                          rintro en w20 ⟨M9, rfl, HW⟩
                          obtain ⟨hK9, hKp9⟩ := HW.purE
                          have HKU9 : Hid (Kept M9 S2 (L.eraseIdx kk) ∧ M9.fr.count [1] = u) := Lib.hid ⟨hK9, by rw [hKp9.count (by decide) (by decide)]; exact HKU.out.2⟩
                          have HW2 := HW.drop
                          obtain ⟨f9, X9, hf9, HF9, hback9⟩ := ram_fr HW2.p2
                          have HB9 := Lib.hid hback9
                          have CC9 := Lib.hid (ramCount ((HF9.alloc (.cells #[.int .i64 1] 3)).drop) 1 (.slice (some ⟨w20.heap.size, 0, none⟩) 1 1) (fun n => Reads.drewN (reads_lit1 w20 (.int .i64 1) 3)))
                          rw [HKU9.out.2] at CC9
                          clear CWH HW HW2 HF9 hback9 HX HKU hK9 hKp9
                          go_wp2_with fail
                          refine CC9.out.mono ?_
                          rintro en w21 ⟨rfl, H21⟩
                          have H22 := (HB9.out _ H21).q2
                          clear CC9 H21 HB9 hf9
                          go_wp2_with fail
                          go_roundw
                          case rel => exact ⟨k + 1, M9, S2, (L.eraseIdx kk), by omega, by go_num, HKU9, H22⟩
                          case measure => simp [intOf]; omega
                  · have e0 : (kd == 0) = false := by simp [hk0]
                    have e1 : (kd == 1) = false := by simp [hk1]
                    have e3 : (kd == 3) = false := by simp [hk3]
                    by_cases hk4 : kd < 2
                    · have e4 : decide (2 ≤ kd) = false := decide_eq_false (by omega)
                      have hP := HKU.out.1.ok
                      rcases free_list HKU.out.1 (nn) with ⟨hin, hat, hfr1⟩ | ⟨kk, ⟨M2, S2⟩, hkk, hat, hfr1, hK2, hKp2⟩
                      · have CD := Lib.hid (r20Drop_no L _ (nn) (by omega) hat H7.drop)
                        have CF : Hid (∀ w' Y, Holds e w' (poolH pb tb rb S :: ramH rb M :: Y) → Calls Tryz.prog 13 #[.pointer (some ⟨pb, 0, none⟩), .int .i64 (nn)] w' (Ret e (.bool false) (poolH pb tb rb S :: ramH rb M :: Y))) := Lib.hid fun w' Y h => by
                          have h1 := poFree h hP (nn)
                          rw [hfr1] at h1
                          exact h1
                        clear hP hin hat hfr1 HX
                        go_wp2_with fail
                        refine CD.out.mono ?_
                        rintro en w7 ⟨rfl, H8⟩
                        clear CD H7 q0 q1 q2 q3 hbx
                        go_wp2_with fail
                        refine (CF.out _ _ H8.q2).mono ?_
                        rintro en w8 ⟨rfl, H9⟩
                        have HX := H9.p2
                        clear CF H8 H9
                        -- behind the switch: ok is true; HKU : Hid (Kept M S L ∧ M.fr.count [1] = u); HX : oH :: poolH :: ramH :: R
                        have CWH := Lib.hid (whole20' HKU.out.1 HX)
                        go_wp2_with fail
                        refine CWH.out.mono ?_
                        rintro en w20 ⟨M9, rfl, HW⟩
                        obtain ⟨hK9, hKp9⟩ := HW.purE
                        have HKU9 : Hid (Kept M9 S L ∧ M9.fr.count [1] = u) := Lib.hid ⟨hK9, by rw [hKp9.count (by decide) (by decide)]; exact HKU.out.2⟩
                        have HW2 := HW.drop
                        obtain ⟨f9, X9, hf9, HF9, hback9⟩ := ram_fr HW2.p2
                        have HB9 := Lib.hid hback9
                        have CC9 := Lib.hid (ramCount ((HF9.alloc (.cells #[.int .i64 1] 3)).drop) 1 (.slice (some ⟨w20.heap.size, 0, none⟩) 1 1) (fun n => Reads.drewN (reads_lit1 w20 (.int .i64 1) 3)))
                        rw [HKU9.out.2] at CC9
                        clear CWH HW HW2 HF9 hback9 HX HKU hK9 hKp9
                        go_wp2_with fail
                        refine CC9.out.mono ?_
                        rintro en w21 ⟨rfl, H21⟩
                        have H22 := (HB9.out _ H21).q2
                        clear CC9 H21 HB9 hf9
                        go_wp2_with fail
                        go_roundw
                        case rel => exact ⟨k + 1, M9, S, L, by omega, by go_num, HKU9, H22⟩
                        case measure => simp [intOf]; omega
                      · have CD := Lib.hid (r20Drop_yes L _ (nn) (by omega) hkk hat H7.drop)
                        have CF : Hid (∀ w' Y, Holds e w' (poolH pb tb rb S :: ramH rb M :: Y) → Calls Tryz.prog 13 #[.pointer (some ⟨pb, 0, none⟩), .int .i64 (nn)] w' (Ret e (.bool true) (poolH pb tb rb S2 :: ramH rb M2 :: Y))) := Lib.hid fun w' Y h => by
                          have h1 := poFree h hP (nn)
                          rw [hfr1] at h1
                          exact h1
                        have HKU2 : Hid (Kept M2 S2 (L.eraseIdx kk) ∧ M2.fr.count [1] = u) := Lib.hid ⟨hK2, by rw [← HKU.out.2]; exact hKp2.count (by decide) (by decide)⟩
                        clear hP hat hfr1 HX hK2 hKp2 hkk
                        go_wp2_with fail
                        refine CD.out.mono ?_
                        rintro en w7 ⟨v7, rfl, H8⟩
                        clear CD H7 q0 q1 q2 q3 hbx
                        go_wp2_with fail
                        refine (CF.out _ _ H8.q2).mono ?_
                        rintro en w8 ⟨rfl, H9⟩
                        have HX := H9.p2
                        clear CF H8 H9 HKU
                        have HKU := HKU2
                        clear HKU2
                        -- behind the switch: ok is true; HKU : Hid (Kept M2 S2 (L.eraseIdx kk) ∧ M2.fr.count [1] = u); HX : oH :: poolH :: ramH :: R
                        have CWH := Lib.hid (whole20' HKU.out.1 HX)
                        go_wp2_with fail
                        refine CWH.out.mono ?_
                        rintro en w20 ⟨M9, rfl, HW⟩
                        obtain ⟨hK9, hKp9⟩ := HW.purE
                        have HKU9 : Hid (Kept M9 S2 (L.eraseIdx kk) ∧ M9.fr.count [1] = u) := Lib.hid ⟨hK9, by rw [hKp9.count (by decide) (by decide)]; exact HKU.out.2⟩
                        have HW2 := HW.drop
                        obtain ⟨f9, X9, hf9, HF9, hback9⟩ := ram_fr HW2.p2
                        have HB9 := Lib.hid hback9
                        have CC9 := Lib.hid (ramCount ((HF9.alloc (.cells #[.int .i64 1] 3)).drop) 1 (.slice (some ⟨w20.heap.size, 0, none⟩) 1 1) (fun n => Reads.drewN (reads_lit1 w20 (.int .i64 1) 3)))
                        rw [HKU9.out.2] at CC9
                        clear CWH HW HW2 HF9 hback9 HX HKU hK9 hKp9
                        go_wp2_with fail
                        refine CC9.out.mono ?_
                        rintro en w21 ⟨rfl, H21⟩
                        have H22 := (HB9.out _ H21).q2
                        clear CC9 H21 HB9 hf9
                        go_wp2_with fail
                        go_roundw
                        case rel => exact ⟨k + 1, M9, S2, (L.eraseIdx kk), by omega, by go_num, HKU9, H22⟩
                        case measure => simp [intOf]; omega
                    · have e4 : decide (2 ≤ kd) = true := decide_eq_true (by omega)
                      have e5 : decide (kd < 4) = false := decide_eq_false (by omega)
                      have hP := HKU.out.1.ok
                      rcases free_list HKU.out.1 (nn) with ⟨hin, hat, hfr1⟩ | ⟨kk, ⟨M2, S2⟩, hkk, hat, hfr1, hK2, hKp2⟩
                      · have CD := Lib.hid (r20Drop_no L _ (nn) (by omega) hat H7.drop)
                        have CF : Hid (∀ w' Y, Holds e w' (poolH pb tb rb S :: ramH rb M :: Y) → Calls Tryz.prog 13 #[.pointer (some ⟨pb, 0, none⟩), .int .i64 (nn)] w' (Ret e (.bool false) (poolH pb tb rb S :: ramH rb M :: Y))) := Lib.hid fun w' Y h => by
                          have h1 := poFree h hP (nn)
                          rw [hfr1] at h1
                          exact h1
                        clear hP hin hat hfr1 HX
                        go_wp2_with fail
                        refine CD.out.mono ?_
                        rintro en w7 ⟨rfl, H8⟩
                        clear CD H7 q0 q1 q2 q3 hbx
                        go_wp2_with fail
                        refine (CF.out _ _ H8.q2).mono ?_
                        rintro en w8 ⟨rfl, H9⟩
                        have HX := H9.p2
                        clear CF H8 H9
                        -- behind the switch: ok is true; HKU : Hid (Kept M S L ∧ M.fr.count [1] = u); HX : oH :: poolH :: ramH :: R
                        have CWH := Lib.hid (whole20' HKU.out.1 HX)
                        go_wp2_with fail
                        refine CWH.out.mono ?_
                        rintro en w20 ⟨M9, rfl, HW⟩
                        obtain ⟨hK9, hKp9⟩ := HW.purE
                        have HKU9 : Hid (Kept M9 S L ∧ M9.fr.count [1] = u) := Lib.hid ⟨hK9, by rw [hKp9.count (by decide) (by decide)]; exact HKU.out.2⟩
                        have HW2 := HW.drop
                        obtain ⟨f9, X9, hf9, HF9, hback9⟩ := ram_fr HW2.p2
                        have HB9 := Lib.hid hback9
                        have CC9 := Lib.hid (ramCount ((HF9.alloc (.cells #[.int .i64 1] 3)).drop) 1 (.slice (some ⟨w20.heap.size, 0, none⟩) 1 1) (fun n => Reads.drewN (reads_lit1 w20 (.int .i64 1) 3)))
                        rw [HKU9.out.2] at CC9
                        clear CWH HW HW2 HF9 hback9 HX HKU hK9 hKp9
                        go_wp2_with fail
                        refine CC9.out.mono ?_
                        rintro en w21 ⟨rfl, H21⟩
                        have H22 := (HB9.out _ H21).q2
                        clear CC9 H21 HB9 hf9
                        go_wp2_with fail
                        go_roundw
                        case rel => exact ⟨k + 1, M9, S, L, by omega, by go_num, HKU9, H22⟩
                        case measure => simp [intOf]; omega
                      · have CD := Lib.hid (r20Drop_yes L _ (nn) (by omega) hkk hat H7.drop)
                        have CF : Hid (∀ w' Y, Holds e w' (poolH pb tb rb S :: ramH rb M :: Y) → Calls Tryz.prog 13 #[.pointer (some ⟨pb, 0, none⟩), .int .i64 (nn)] w' (Ret e (.bool true) (poolH pb tb rb S2 :: ramH rb M2 :: Y))) := Lib.hid fun w' Y h => by
                          have h1 := poFree h hP (nn)
                          rw [hfr1] at h1
                          exact h1
                        have HKU2 : Hid (Kept M2 S2 (L.eraseIdx kk) ∧ M2.fr.count [1] = u) := Lib.hid ⟨hK2, by rw [← HKU.out.2]; exact hKp2.count (by decide) (by decide)⟩
                        clear hP hat hfr1 HX hK2 hKp2 hkk
                        go_wp2_with fail
                        refine CD.out.mono ?_
                        rintro en w7 ⟨v7, rfl, H8⟩
                        clear CD H7 q0 q1 q2 q3 hbx
                        go_wp2_with fail
                        refine (CF.out _ _ H8.q2).mono ?_
                        rintro en w8 ⟨rfl, H9⟩
                        have HX := H9.p2
                        clear CF H8 H9 HKU
                        have HKU := HKU2
                        clear HKU2
                        -- behind the switch: ok is true; HKU : Hid (Kept M2 S2 (L.eraseIdx kk) ∧ M2.fr.count [1] = u); HX : oH :: poolH :: ramH :: R
                        have CWH := Lib.hid (whole20' HKU.out.1 HX)
                        go_wp2_with fail
                        refine CWH.out.mono ?_
                        rintro en w20 ⟨M9, rfl, HW⟩
                        obtain ⟨hK9, hKp9⟩ := HW.purE
                        have HKU9 : Hid (Kept M9 S2 (L.eraseIdx kk) ∧ M9.fr.count [1] = u) := Lib.hid ⟨hK9, by rw [hKp9.count (by decide) (by decide)]; exact HKU.out.2⟩
                        have HW2 := HW.drop
                        obtain ⟨f9, X9, hf9, HF9, hback9⟩ := ram_fr HW2.p2
                        have HB9 := Lib.hid hback9
                        have CC9 := Lib.hid (ramCount ((HF9.alloc (.cells #[.int .i64 1] 3)).drop) 1 (.slice (some ⟨w20.heap.size, 0, none⟩) 1 1) (fun n => Reads.drewN (reads_lit1 w20 (.int .i64 1) 3)))
                        rw [HKU9.out.2] at CC9
                        clear CWH HW HW2 HF9 hback9 HX HKU hK9 hKp9
                        go_wp2_with fail
                        refine CC9.out.mono ?_
                        rintro en w21 ⟨rfl, H21⟩
                        have H22 := (HB9.out _ H21).q2
                        clear CC9 H21 HB9 hf9
                        go_wp2_with fail
                        go_roundw
                        case rel => exact ⟨k + 1, M9, S2, (L.eraseIdx kk), by omega, by go_num, HKU9, H22⟩
                        case measure => simp [intOf]; omega
          · have hki : ¬ (k : Int) < n := by omega
            have HK0 : Hid (Kept M S (L.take L.length)) := Lib.hid (by rw [List.take_length]; exact HKU.out.1)
            clear HKU HDD
            go_wp2_with fail
            go_loopw [19] (fun i wr => ∃ (j : Nat) (M : RamS) (S : PoolS), j ≤ L.length ∧ i = .int .i64 ((j : Int) - 1) ∧ Hid (Kept M S (L.take j)) ∧ Holds e wr (oH (.slice la L.length lc) L :: poolH pb tb rb S :: ramH rb M :: R)) (fun i _ => ((intOf i) + 1).toNat)
            case atStart => exact ⟨L.length, M, S, by omega, rfl, HK0, HX⟩
            case round =>
              clear HX HK0
              obtain ⟨j, M, S, hj, rfl, HKJ, HX⟩ := hrel
              cases j with
              | zero =>
                obtain ⟨hs0, hc0⟩ := kept_nil HKJ.out
                have hP := HKJ.out.ok
                have hl := hP.len
                have CFR := Lib.hid fun (w' : World) (Y : List HP) (h : Holds e w' (poolH pb tb rb S :: Y)) => framesAny hP h
                rw [hc0] at CFR
                have CSH := Lib.hid fun (w' : World) (Y : List HP) (h : Holds e w' (poolH pb tb rb S :: Y)) => poSheets h (by omega) hP.rows
                rw [hs0] at CSH
                have hj0 : decide ((0 : Int) ≤ ((0 : Nat) : Int) - 1) = false := decide_eq_false (by omega)
                clear hP hs0 HKJ
                go_wp2_with fail
                refine (CFR.out _ _ HX.swap).mono ?_
                rintro en w7 ⟨rfl, H8⟩
                obtain ⟨f, X, hf, HF, hback⟩ := ram_fr H8.p2
                have HB := Lib.hid hback
                have CC := Lib.hid (ramCount ((HF.alloc (.cells #[.int .i64 3] 3)).drop) 3 (.slice (some ⟨w7.heap.size, 0, none⟩) 1 1) (fun n => Reads.drewN (reads_lit1 w7 (.int .i64 3) 3)))
                rw [hc0] at CC
                clear HX HF hback H8 CFR hc0
                go_wp2_with fail
                refine CC.out.mono ?_
                rintro en w8 ⟨rfl, H9⟩
                have H10 := (HB.out _ H9).swap
                clear CC H9 HB hf
                go_wp2_with fail
                refine (CSH.out _ _ H10).mono ?_
                rintro en w9 ⟨vs, rfl, H11⟩
                obtain ⟨sa, sc, Q, rfl, _, _⟩ := sh_open H11
                have H12 := H11.drop.drop.drop.drop
                clear H10 CSH H11
                rw [List.length_nil]
                go_wp2_with fail
                refine (lives20 H12).mono ?_
                rintro en w10 ⟨rfl, H13⟩
                clear H12
                go_wp2_with fail
                go_ret
                exact ⟨rfl, H13⟩
              | succ j =>
                have hjl : j < L.length := by omega
                obtain ⟨q, hq⟩ : ∃ q, L[j]? = some q := ⟨_, List.getElem?_eq_getElem hjl⟩
                obtain ⟨⟨M2, S2⟩, hfr1, hK2⟩ := kept_last HKJ.out hq
                obtain ⟨g2, o2, c2, vb2, hv2, y0, _, _⟩ := o_at hq HX
                cases hv2
                have hP := HKJ.out.ok
                have CF : Hid (∀ w' Y, Holds e w' (poolH pb tb rb S :: ramH rb M :: Y) → Calls Tryz.prog 13 #[.pointer (some ⟨pb, 0, none⟩), .int .i64 q.1] w' (Ret e (.bool true) (poolH pb tb rb S2 :: ramH rb M2 :: Y))) := Lib.hid fun w' Y h => by
                  have h1 := poFree h hP q.1
                  rw [hfr1] at h1
                  exact h1
                have HK2 := Lib.hid hK2
                have e1 : (((j + 1 : Nat) : Int) - 1) = (j : Int) := by omega
                have hj0 : decide ((0 : Int) ≤ (j : Int)) = true := decide_eq_true (by omega)
                have hji : (j : Int) < (L.length : Int) := by omega
                rw [e1]
                clear hP hfr1 hK2 HKJ hq e1
                go_wp2_with fail
                refine (CF.out _ _ HX.q2).mono ?_
                rintro en w7 ⟨rfl, H8⟩
                have H9 := H8.p2
                clear CF HX H8 y0
                go_wp2_with fail
                go_roundw
                case rel => exact ⟨j, M2, S2, by omega, by first | rfl | go_num, HK2, H9⟩
                case measure => simp [intOf]
end
end Go.Proofs.YtheblkofemobdaaGreat

/-
  gunnylaw20: PoolKeeps, for arguments.
-/
namespace Go.Proofs.YtheblkofemobdaaGreat
open Go.RowKit
theorem u8_arg {P : Program} {W : World} {t : TypeId} {v : Value} (h : Arg P W t v) (ht : P.underlying t = some (.int .u8)) : ∃ z, v = .int .u8 z ∧ 0 ≤ z ∧ z ≤ 255 := by
  obtain ⟨z, hz, hw⟩ := h.int ht
  refine ⟨z, hz, ?_⟩
  unfold Lit.wf at hw
  have h2 : IntKind.u8.min ≤ z ∧ z ≤ IntKind.u8.max := by simpa using hw
  have h3 : IntKind.u8.min = 0 := by decide
  have h4 : IntKind.u8.max = 255 := by decide
  rw [h3, h4] at h2
  exact h2
theorem poolKeeps_arg (W : World) (v0 v1 v2 : Value) (a0 : Arg Tryz.prog W 5 v0) (a1 : Arg Tryz.prog W 5 v1) (a2 : Arg Tryz.prog W 22 v2) :
    Calls Tryz.prog 5 #[v0, v1, v2] W fun e w' => e = .returned (.bool true) ∧ Below W.heap.size W w' := by
  obtain ⟨x, rfl, hx⟩ := u8_arg a0 Tryz.underlying5
  obtain ⟨y, rfl, hy⟩ := u8_arg a1 Tryz.underlying5
  obtain ⟨n, xs, hn, hr, hD⟩ := deeds20 a2
  exact (poolKeeps_walk (Holds.start W) v2 n xs hn (fun w' h => hr.based h) hD x y hx hy).mono fun en w' ⟨r1, r2⟩ => ⟨r1, r2.below rfl rfl rfl⟩
end Go.Proofs.YtheblkofemobdaaGreat

/-
  gunnylaw21: MoveFits.
-/
namespace Go.Proofs.YtheblkofemobdaaGreat
open Go.RowKit

section
variable {e : Env} {w : World} {R : List HP}
set_option maxRecDepth 100000 in
set_option maxHeartbeats 4000000 in
theorem moveFits_walk (H : Holds e w R) (v : Value) (n : Nat) (xs : List Value) (hn : n ≤ 4611686018427387904) (hr : ∀ w', Holds e w' R → Reads w' v 4 n xs) (hD : ∀ i, i < n → ∃ d, DeedAt xs i d) (s16 : Int) (hs : 0 ≤ s16 ∧ s16 ≤ 65535) :
    Calls Tryz.prog 6 #[v, .int .u16 s16] w (Ret e (.bool true) R) := by
  have CG := great21 H v n xs hn hr hD
  have CFI := Lib.hid fun (w' : World) (h : Holds e w' R) (hn : n ≤ 120) => mFilled h v n xs hn hr hD
  obtain ⟨a, c, rfl⟩ := (hr w H).shape
  obtain ⟨hs1, hs2⟩ := hs
  clear hr hD
  obtain ⟨N, hN⟩ : ∃ N : Nat, 1 + s16 % 4096 = (N : Int) := ⟨(1 + s16 % 4096).toNat, by omega⟩
  have hN1 : 1 ≤ N := by omega
  have hN2 : N ≤ 4096 := by omega
  go_enter Tryz.func6, Tryz.ntmps6
  go_wp2_with fail
  refine CG.mono ?_
  rintro en w1 ⟨gb, rfl, H1⟩
  have hgb := H1.purE
  clear CG H
  cases gb with
  | true =>
    go_wp2_with fail
    refine (lives21 H1.drop).mono ?_
    rintro en w2 ⟨rfl, H2⟩
    clear H1
    go_wp2_with fail
    go_ret
    exact ⟨rfl, H2⟩
  | false =>
    have CF := CFI.out _ H1.drop (hgb rfl)
    clear H1 CFI hgb
    go_wp2_with fail
    refine CF.mono ?_
    rintro en w2 ⟨⟨⟨pb, tb, rb⟩, M, S, vo, L⟩, rfl, H2⟩
    unfold fillPost at H2
    obtain ⟨hK, hL⟩ := H2.purE
    have H3 := H2.drop.q2
    dsimp only at H3 hK hL
    unfold FQ.val
    dsimp only
    have HK := Lib.hid hK
    clear CF H2 hK
    have CR := Lib.hid (retQ (poRAM H3) H3)
    go_wp2_with fail
    refine CR.out.mono ?_
    rintro en w3 ⟨rfl, H4⟩
    have CC := Lib.hid (mCompact HK.out H4)
    clear CR H3 H4
    go_wp2_with fail
    refine CC.out.mono ?_
    rintro en w4 ⟨⟨M2, S2⟩, rfl, H5⟩
    have HK2 := Lib.hid H5.purE.1
    have H6 := H5.drop
    dsimp only at HK2 H6
    clear CC H5 HK
    have CND : Hid (∀ w' Y, Holds e w' (poolH pb tb rb S2 :: Y) → Calls Tryz.prog 17 #[.pointer (some ⟨pb, 0, none⟩), .int .i64 N] w' (Ret e (.int .i64 (needP S2 N : Nat)) (poolH pb tb rb S2 :: Y))) := Lib.hid fun w' Y h => poNeed h N hN1 hN2 (HK2.out.ok.bkok (by omega))
    have CRA := Lib.hid fun (w' : World) (Y : List HP) (h : Holds e w' (poolH pb tb rb S2 :: Y)) => retQ (poRAM h) h
    have hnd : needP S2 N ≤ 4 := by unfold needP; have := (cFrames_bd ((N - 1) / 64)).2; split <;> omega
    have hfl : M2.fr.count [0] ≤ 96 := Nat.le_trans (List.length_filter_le _ _) HK2.out.ok.pgs.fr.n96
    have HFC := Lib.hid (free_count HK2.out.ok.pgs.fr)
    go_wp2_with fail
    refine (CND.out _ _ H6).mono ?_
    rintro en w5 ⟨rfl, H7⟩
    clear H6 CND
    go_wp2_with fail
    refine (CRA.out _ _ H7).mono ?_
    rintro en w6 ⟨rfl, H8⟩
    obtain ⟨f, X, hf, HF, hback⟩ := ram_fr H8.swap
    have HB := Lib.hid hback
    have CCN := Lib.hid (ramCount ((HF.alloc (.cells #[.int .i64 0] 3)).drop) 0 (.slice (some ⟨w6.heap.size, 0, none⟩) 1 1) (fun n => Reads.drewN (reads_lit1 w6 (.int .i64 0) 3)))
    clear HF hback H7 H8 CRA
    go_wp2_with fail
    refine CCN.out.mono ?_
    rintro en w7 ⟨rfl, H9⟩
    have H10 := (HB.out _ H9).swap
    clear CCN H9 HB hf
    have HBY := Lib.hid (bytes20 H10 N (by omega) 9 (by omega))
    go_wp2_with fail
    refine HBY.out.mono ?_
    rintro en w8 ⟨⟨vb, db⟩, rfl, H11⟩
    have hdb := H11.purE
    dsimp only at hdb
    have H12 := H11.drop.q2
    have CAL := poAlloc H12 HK2.out.ok vb db (fun w' h' => bts.reads h') (by omega)
    have HBO := Lib.hid (H12.p3.d3.d2.d1)
    dsimp only
    clear HBY H10 H11 H12
    have hmn := HK2.out.many
    obtain ⟨la, lc, rfl⟩ := o_shape (HBO.out)
    rcases alloc_kept (d := db) HK2.out with ⟨x, hx5, e1, hK3, _, hne, _, _⟩ | ⟨er, her, e1, hno⟩
    · rw [hdb, ← HFC.out] at hne
      obtain ⟨r, hr⟩ : ∃ r, S2.alloc M2 db = r := ⟨_, rfl⟩
      rw [hr] at CAL e1 hK3
      obtain ⟨⟨r1, r2⟩, M3, S3⟩ := r
      dsimp only at CAL e1 hK3
      cases e1
      have CAL := Lib.hid CAL
      have HK3 := Lib.hid hK3
      clear hr hK3 hmn HFC HK2
      generalize needP S2 N = nd at *
      generalize M2.fr.count [0] = fl at *
      have z1 : decide ((nd : Int) ≤ (fl : Int)) = true := decide_eq_true (by omega)
      have z2 : decide (nd ≤ fl) = true := decide_eq_true hne
      have z3 : decide ((L.length : Int) < 512) = true := decide_eq_true (by omega)
      have z4 : decide (L.length < 512) = true := decide_eq_true (by omega)
      have hL6 : L.length ≤ 1000000 := by omega
      go_wp2_with fail
      refine CAL.out.mono ?_
      rintro en w9 ⟨rfl, H13⟩
      have CPT := Lib.hid (r20Put (R := poolH pb tb rb S3 :: ramH rb M3 :: bts vb db :: R) L (.slice la L.length lc) x vb db hL6 (by omega) (fun w' h' => bts.reads h'.drop.drop) H13.p3)
      clear CAL H13
      go_wp2_with fail
      refine CPT.out.mono ?_
      rintro en w10 ⟨v9, rfl, H14⟩
      have CWH := Lib.hid (whole20' HK3.out H14.d3)
      clear CPT H14
      go_wp2_with fail
      refine CWH.out.mono ?_
      rintro en w11 ⟨M9, rfl, HW⟩
      have H15 := HW.drop.drop.drop.drop
      clear CWH HW
      go_wp2_with fail
      refine (lives21 H15).mono ?_
      rintro en w12 ⟨rfl, H16⟩
      clear H15
      go_wp2_with fail
      go_ret
      exact ⟨rfl, H16⟩
    · obtain ⟨rfl, hno2⟩ := hno (by omega) (by omega)
      rw [hdb, ← HFC.out] at hno2
      have hlt : M2.fr.count [0] < needP S2 N := by omega
      rw [e1] at CAL
      dsimp only at CAL
      have CAL := Lib.hid CAL
      clear hmn HFC hno2 e1 her hno
      generalize needP S2 N = nd at *
      generalize M2.fr.count [0] = fl at *
      have z1 : decide ((nd : Int) ≤ (fl : Int)) = false := decide_eq_false (by omega)
      have z2 : decide (nd ≤ fl) = false := decide_eq_false (by omega)
      go_wp2_with fail
      refine CAL.out.mono ?_
      rintro en w9 ⟨rfl, H13⟩
      have CWH := Lib.hid (whole20' HK2.out H13.p3.d3)
      clear CAL H13
      go_wp2_with fail
      refine CWH.out.mono ?_
      rintro en w11 ⟨M9, rfl, HW⟩
      have H15 := HW.drop.drop.drop.drop
      clear CWH HW
      go_wp2_with fail
      refine (lives21 H15).mono ?_
      rintro en w12 ⟨rfl, H16⟩
      clear H15
      go_wp2_with fail
      go_ret
      exact ⟨rfl, H16⟩
theorem moveFits_arg (W : World) (v0 v1 : Value) (a0 : Arg Tryz.prog W 22 v0) (a1 : Arg Tryz.prog W 23 v1) :
    Calls Tryz.prog 6 #[v0, v1] W fun e w' => e = .returned (.bool true) ∧ Below W.heap.size W w' := by
  obtain ⟨n, xs, hn, hr, hD⟩ := deeds20 a0
  obtain ⟨z, rfl, hz⟩ := u16_arg a1 Tryz.underlying23
  exact (moveFits_walk (Holds.start W) v0 n xs hn (fun w' h => hr.based h) hD z hz).mono fun en w' ⟨r1, r2⟩ => ⟨r1, r2.below rfl rfl rfl⟩
end
end Go.Proofs.YtheblkofemobdaaGreat
