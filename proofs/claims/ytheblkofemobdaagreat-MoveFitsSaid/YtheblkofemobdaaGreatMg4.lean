import Derived.Test.YtheblkofemobdaaGreatMg3
/-
  gunnylaw20: alloc.
-/
namespace Go.Proofs.YtheblkofemobdaaGreat
open Go.RowKit

theorem into_fr {M : RamS} {S : PoolS} {n : Nat} {g : PgS} {d : List UInt8} (Rm : Room M S n g) (hc : g.cls = (d.length - 1) / 64) : (S.into M n d).2.1.fr = M.fr := by
  obtain ⟨k, L, hI⟩ := Rm.inv
  obtain ⟨hf, _, _⟩ := hI.takeHead
  have hk1 : g.first - 1 = k := by omega
  unfold PoolS.into
  rw [Rm.pg]
  dsimp only
  rw [hk1]
  exact (put_ram Rm.pgs.ram hI (csz_of hc)).2.1
theorem made_count {M : RamS} {c : Nat} {p : RamS × PgS} (mk : Made M c p) : p.1.fr.count [3] = M.fr.count [3] + cFrames c := by
  have h3 := count_row (F := M.fr) (F' := p.1.fr) (row := p.2.row) (u := 0) (v := 3) mk.olen mk.inv.ok.nd (fun r hr => ⟨by rw [← mk.olen]; exact mk.inv.ok.rowIn r hr, mk.was r hr⟩) mk.own [3]
  have h4 := mk.inv.ok.len
  rw [mk.cls] at h4
  simp at h3
  omega
theorem alloc_frames {M : RamS} {S : PoolS} {d : List UInt8} (h : PoolOk M S) (h1 : 1 ≤ d.length) (h2 : d.length ≤ 4096) (hm : S.tab.many < 512) (hf : needP S d.length ≤ M.fr.free.length) : (S.alloc M d).2.1.fr.count [3] = M.fr.count [3] + needP S d.length := by
  have hc : (d.length - 1) / 64 < 64 := by omega
  unfold needP at hf ⊢
  unfold PoolS.alloc
  rw [if_neg (by omega), if_neg (by omega)]
  cases hb : bestB (S.bks ((d.length - 1) / 64)) [] with
  | some n =>
    obtain ⟨g, Rm, hg, _⟩ := h.room_old hc hb
    dsimp only
    rw [into_fr Rm hg]
    simp only [Option.isSome_some, if_true, Nat.add_zero]
  | none =>
    rw [hb] at hf
    simp only [Option.isSome_none, Bool.false_eq_true, if_false] at hf ⊢
    have hf' := hf
    rw [if_neg (by omega)]
    obtain ⟨g, Rm, hg, _⟩ := h.room_new hc hm hf'
    rw [into_fr Rm hg]
    unfold PoolS.fresh
    dsimp only
    exact made_count (mk_made h.pgs.ram h.pgs.fr hc hf')
theorem note_count {M : RamS} {S : PoolS} {n : Nat} (hP : PgsOk M S.pgs) : (noteF M S n).1.fr.count [3] ≤ M.fr.count [3] := by
  unfold noteF
  split
  · next g hg =>
    split
    · exact Nat.le_refl _
    · obtain ⟨L, hI⟩ := hP.pg n g hg
      have h2 := count_row (F := M.fr) (F' := (M.giveL g.row).fr) (row := g.row) (u := 3) (v := 0) (giveL_len _ _) hI.ok.nd (fun r hr => ⟨hI.ok.rowIn r hr, hI.ok.own r hr⟩) (giveL_own hI.ok.rowIn) [3]
      simp at h2
      dsimp only
      omega
  · exact Nat.le_refl _
abbrev AR := Value × List OE × RamS × PoolS
section
variable {e : Env} {w : World} {R : List HP} {pb tb rb : Nat} {S : PoolS} {M : RamS}
def allocPost (pb tb rb : Nat) (M : RamS) (R : List HP) (r : AR) : List HP := pur (Kept r.2.2.1 r.2.2.2 r.2.1 ∧ Keep M r.2.2.1) :: oH r.1 r.2.1 :: poolH pb tb rb r.2.2.2 :: ramH rb r.2.2.1 :: R
/-- Frames, of any pool that is one. -/
theorem framesAny (hP : PoolOk M S) (H : Holds e w (poolH pb tb rb S :: R)) : Calls Tryz.prog 24 #[.pointer (some ⟨pb, 0, none⟩)] w (Ret e (.int .i64 (M.fr.count [3])) (poolH pb tb rb S :: R)) := by
  have := hP.len
  have h := poFrames H (by omega) hP.rows
  rw [framesOf_fsum, ← hP.pgs.frames] at h
  exact h
set_option maxRecDepth 100000 in
set_option maxHeartbeats 2000000 in
theorem alloc20_bad {vl vb : Value} {L : List OE} {d : List UInt8} (hK : Kept M S L) (hdl : d.length ≤ 9000) (hbad : d.length < 1 ∨ 4096 < d.length) (H : Holds e w (oH vl L :: poolH pb tb rb S :: ramH rb M :: bts vb d :: R)) :
    Calls Tryz.prog 28 #[.pointer (some ⟨pb, 0, none⟩), vl, vb] w (RetEx e (fun r : AR => .tuple #[r.1, .bool true]) (allocPost pb tb rb M R)) := by
  have H1 := H.swap
  have hP := hK.ok
  have hf96 := hP.pgs.fr.free96
  have hFR := Lib.hid fun (w' : World) (Y : List HP) (h : Holds e w' (poolH pb tb rb S :: Y)) => framesAny hP h
  have hRA := Lib.hid fun (w' : World) (Y : List HP) (h : Holds e w' (poolH pb tb rb S :: Y)) => retQ (poRAM h) h
  obtain ⟨la, lc, rfl⟩ := o_shape H
  obtain ⟨ba, bc, rfl⟩ := (bts.reads (H.imp fun _ s => (Take.there _ (Take.there _ (Take.there _ (Take.here _ _)))) _ s)).shape
  have hL512 := hK.len512
  have hC3 : M.fr.count [3] ≤ 96 := Nat.le_trans (List.length_filter_le _ _) hP.pgs.fr.n96
  have hC0 := free_count hP.pgs.fr
  clear H
  have CND : Hid (∀ w' Y, Holds e w' (poolH pb tb rb S :: Y) → Calls Tryz.prog 17 #[.pointer (some ⟨pb, 0, none⟩), .int .i64 d.length] w' (Ret e (.int .i64 0) (poolH pb tb rb S :: Y))) := Lib.hid fun w' Y h => retQ (poNeed_bad d.length (by omega) _) h
  go_enter Tryz.func28, Tryz.ntmps28
  go_wp2_with fail
  refine (CND.out _ _ H1).mono ?_
  rintro en w1 ⟨rfl, H2⟩
  clear CND H1
  go_wp2_with fail
  refine (hRA.out _ _ H2).mono ?_
  rintro en w2 ⟨rfl, H3⟩
  clear H2 hRA
  obtain ⟨f, X, hf, HF, hback⟩ := ram_fr H3.p2
  have HB := Lib.hid hback
  have CC := Lib.hid (ramCount ((HF.alloc (.cells #[.int .i64 0] 3)).drop) 0 (.slice (some ⟨w2.heap.size, 0, none⟩) 1 1) (fun n => Reads.drewN (reads_lit1 w2 (.int .i64 0) 3)))
  rw [hC0] at CC
  have H3c : Hid (∀ w', Holds e w' (frH f M.fr :: X :: poolH pb tb rb S :: oH (.slice la L.length lc) L :: bts (.slice ba d.length bc) d :: R) → Holds e w' (poolH pb tb rb S :: ramH rb M :: bts (.slice ba d.length bc) d :: oH (.slice la L.length lc) L :: R)) := Lib.hid fun w' h => by
    have h2 : Holds e w' (ramH rb M :: poolH pb tb rb S :: oH (.slice la L.length lc) L :: bts (.slice ba d.length bc) d :: R) := HB.out w' h
    exact h2.swap.cons fun _ s => Sat.cons (fun _ => Sat.q1) s
  clear H3 HF hback HB
  obtain ⟨fl, hfl⟩ : ∃ fl, M.fr.free.length = fl := ⟨_, rfl⟩
  rw [hfl] at CC hf96
  obtain ⟨c3, hc3⟩ : ∃ c3, M.fr.count [3] = c3 := ⟨_, rfl⟩
  rw [hc3] at hFR hC3
  have HFL := Lib.hid hfl
  have HC3 := Lib.hid hc3
  clear hfl hc3 hC0
  go_wp2_with fail
  refine CC.out.mono ?_
  rintro en w3 ⟨rfl, H4⟩
  have H5 := H3c.out _ H4
  clear CC H4 H3c
  go_wp2_with fail
  refine (hFR.out _ _ H5).mono ?_
  rintro en w4 ⟨rfl, H6⟩
  clear H5
  have CAL := Lib.hid (poAlloc H6 hP (.slice ba d.length bc) d (fun w' h' => bts.reads h') (by omega))
  rw [alloc_bad hbad] at CAL
  have HK := Lib.hid hK
  clear hP hK
  by_cases h1 : d.length < 1
  · have h1i : (d.length : Int) < 1 := by omega
    go_wp2_with fail
    refine CAL.out.mono ?_
    rintro en w5 ⟨rfl, H7⟩
    clear CAL H6
    go_wp2_with fail
    go_ret2
    exact ⟨(_, L, M, S), rfl, Holds.mkPur ⟨HK.out, Keep.refl M⟩ (H7.imp fun _ s => (Take.there _ (Take.there _ (Take.there _ (Take.here _ _)))) _ s).d3⟩
  · have h1i : ¬ (d.length : Int) < 1 := by omega
    have h4i : (4096 : Int) < d.length := by omega
    go_wp2_with fail
    refine CAL.out.mono ?_
    rintro en w5 ⟨rfl, H7⟩
    clear CAL H6
    go_wp2_with fail
    go_ret2
    exact ⟨(_, L, M, S), rfl, Holds.mkPur ⟨HK.out, Keep.refl M⟩ (H7.imp fun _ s => (Take.there _ (Take.there _ (Take.there _ (Take.here _ _)))) _ s).d3⟩
set_option maxRecDepth 100000 in
set_option maxHeartbeats 2000000 in
theorem alloc20_no {vl vb : Value} {L : List OE} {d : List UInt8} (hK : Kept M S L) (h1d : 1 ≤ d.length) (h2d : d.length ≤ 4096) (hno : 512 ≤ S.tab.many ∨ M.fr.free.length < needP S d.length) (H : Holds e w (oH vl L :: poolH pb tb rb S :: ramH rb M :: bts vb d :: R)) :
    Calls Tryz.prog 28 #[.pointer (some ⟨pb, 0, none⟩), vl, vb] w (RetEx e (fun r : AR => .tuple #[r.1, .bool true]) (allocPost pb tb rb M R)) := by
  have H1 := H.swap
  have hP := hK.ok
  have hf96 := hP.pgs.fr.free96
  have hFR := Lib.hid fun (w' : World) (Y : List HP) (h : Holds e w' (poolH pb tb rb S :: Y)) => framesAny hP h
  have hRA := Lib.hid fun (w' : World) (Y : List HP) (h : Holds e w' (poolH pb tb rb S :: Y)) => retQ (poRAM h) h
  obtain ⟨la, lc, rfl⟩ := o_shape H
  obtain ⟨ba, bc, rfl⟩ := (bts.reads (H.imp fun _ s => (Take.there _ (Take.there _ (Take.there _ (Take.here _ _)))) _ s)).shape
  have hL512 := hK.len512
  have hC3 : M.fr.count [3] ≤ 96 := Nat.le_trans (List.length_filter_le _ _) hP.pgs.fr.n96
  have hC0 := free_count hP.pgs.fr
  clear H
  have hmn := hK.many
  obtain ⟨q, hq⟩ : ∃ q, needP S d.length = q := ⟨_, rfl⟩
  have hq4 : q ≤ 4 := by rw [← hq]; unfold needP; have := (cFrames_bd ((d.length - 1) / 64)).2; split <;> omega
  have CND : Hid (∀ w' Y, Holds e w' (poolH pb tb rb S :: Y) → Calls Tryz.prog 17 #[.pointer (some ⟨pb, 0, none⟩), .int .i64 d.length] w' (Ret e (.int .i64 q) (poolH pb tb rb S :: Y))) := Lib.hid fun w' Y h => by
    have h3 := poNeed h d.length h1d h2d (hP.bkok (by omega))
    rw [← hq]
    exact h3
  go_enter Tryz.func28, Tryz.ntmps28
  go_wp2_with fail
  refine (CND.out _ _ H1).mono ?_
  rintro en w1 ⟨rfl, H2⟩
  clear CND H1
  go_wp2_with fail
  refine (hRA.out _ _ H2).mono ?_
  rintro en w2 ⟨rfl, H3⟩
  clear H2 hRA
  obtain ⟨f, X, hf, HF, hback⟩ := ram_fr H3.p2
  have HB := Lib.hid hback
  have CC := Lib.hid (ramCount ((HF.alloc (.cells #[.int .i64 0] 3)).drop) 0 (.slice (some ⟨w2.heap.size, 0, none⟩) 1 1) (fun n => Reads.drewN (reads_lit1 w2 (.int .i64 0) 3)))
  rw [hC0] at CC
  have H3c : Hid (∀ w', Holds e w' (frH f M.fr :: X :: poolH pb tb rb S :: oH (.slice la L.length lc) L :: bts (.slice ba d.length bc) d :: R) → Holds e w' (poolH pb tb rb S :: ramH rb M :: bts (.slice ba d.length bc) d :: oH (.slice la L.length lc) L :: R)) := Lib.hid fun w' h => by
    have h2 : Holds e w' (ramH rb M :: poolH pb tb rb S :: oH (.slice la L.length lc) L :: bts (.slice ba d.length bc) d :: R) := HB.out w' h
    exact h2.swap.cons fun _ s => Sat.cons (fun _ => Sat.q1) s
  clear H3 HF hback HB
  obtain ⟨fl, hfl⟩ : ∃ fl, M.fr.free.length = fl := ⟨_, rfl⟩
  rw [hfl] at CC hf96
  obtain ⟨c3, hc3⟩ : ∃ c3, M.fr.count [3] = c3 := ⟨_, rfl⟩
  rw [hc3] at hFR hC3
  have HFL := Lib.hid hfl
  have HC3 := Lib.hid hc3
  clear hfl hc3 hC0
  go_wp2_with fail
  refine CC.out.mono ?_
  rintro en w3 ⟨rfl, H4⟩
  have H5 := H3c.out _ H4
  clear CC H4 H3c
  go_wp2_with fail
  refine (hFR.out _ _ H5).mono ?_
  rintro en w4 ⟨rfl, H6⟩
  clear H5
  have CAL := Lib.hid (poAlloc H6 hP (.slice ba d.length bc) d (fun w' h' => bts.reads h') (by omega))
  rw [alloc_no h1d h2d hno] at CAL
  rw [hq, HFL.out] at hno
  have HK := Lib.hid hK
  have hd1 : ¬ (d.length : Int) < 1 := by omega
  have hd4 : ¬ (4096 : Int) < d.length := by omega
  clear hP hK hq
  by_cases hqf : fl < q
  · have hqi : (fl : Int) < q := by omega
    go_wp2_with fail
    refine CAL.out.mono ?_
    rintro en w5 ⟨rfl, H7⟩
    clear CAL H6
    go_wp2_with fail
    refine (hFR.out _ _ H7).mono ?_
    rintro en w6 ⟨rfl, H8⟩
    clear H7
    go_wp2_with fail
    go_ret2
    exact ⟨(_, L, M, S), rfl, Holds.mkPur ⟨HK.out, Keep.refl M⟩ (H8.imp fun _ s => (Take.there _ (Take.there _ (Take.there _ (Take.here _ _)))) _ s).d3⟩
  · have hqi : ¬ (fl : Int) < q := by omega
    have hl512 : ((L.length : Int) == 512) = true := by simp; omega
    go_wp2_with fail
    refine CAL.out.mono ?_
    rintro en w5 ⟨rfl, H7⟩
    clear CAL H6
    go_wp2_with fail
    refine (hFR.out _ _ H7).mono ?_
    rintro en w6 ⟨rfl, H8⟩
    clear H7
    go_wp2_with fail
    go_ret2
    exact ⟨(_, L, M, S), rfl, Holds.mkPur ⟨HK.out, Keep.refl M⟩ (H8.imp fun _ s => (Take.there _ (Take.there _ (Take.there _ (Take.here _ _)))) _ s).d3⟩
set_option maxRecDepth 100000 in
set_option maxHeartbeats 2000000 in
theorem alloc20_ok {vl vb : Value} {L : List OE} {d : List UInt8} (hK : Kept M S L) (h1d : 1 ≤ d.length) (h2d : d.length ≤ 4096) (hm : S.tab.many < 512) (hno : needP S d.length ≤ M.fr.free.length) (H : Holds e w (oH vl L :: poolH pb tb rb S :: ramH rb M :: bts vb d :: R)) :
    Calls Tryz.prog 28 #[.pointer (some ⟨pb, 0, none⟩), vl, vb] w (RetEx e (fun r : AR => .tuple #[r.1, .bool true]) (allocPost pb tb rb M R)) := by
  have H1 := H.swap
  have hP := hK.ok
  have hf96 := hP.pgs.fr.free96
  have hFR := Lib.hid fun (w' : World) (Y : List HP) (h : Holds e w' (poolH pb tb rb S :: Y)) => framesAny hP h
  have hRA := Lib.hid fun (w' : World) (Y : List HP) (h : Holds e w' (poolH pb tb rb S :: Y)) => retQ (poRAM h) h
  obtain ⟨la, lc, rfl⟩ := o_shape H
  obtain ⟨ba, bc, rfl⟩ := (bts.reads (H.imp fun _ s => (Take.there _ (Take.there _ (Take.there _ (Take.here _ _)))) _ s)).shape
  have hL512 := hK.len512
  have hC3 : M.fr.count [3] ≤ 96 := Nat.le_trans (List.length_filter_le _ _) hP.pgs.fr.n96
  have hC0 := free_count hP.pgs.fr
  clear H
  have hmn := hK.many
  obtain ⟨x, A⟩ := alloc_law hP h1d h2d hm hno
  have hAF := alloc_frames hP h1d h2d hm hno
  have hres := A.res
  have hx1 := A.h1
  have hx2 := A.h2
  obtain ⟨hK2, hAt⟩ := hK.alloc A
  have hkeep := A.keep
  have hP2 := A.ok
  obtain ⟨q, hq⟩ : ∃ q, needP S d.length = q := ⟨_, rfl⟩
  have hq4 : q ≤ 4 := by rw [← hq]; unfold needP; have := (cFrames_bd ((d.length - 1) / 64)).2; split <;> omega
  have CND : Hid (∀ w' Y, Holds e w' (poolH pb tb rb S :: Y) → Calls Tryz.prog 17 #[.pointer (some ⟨pb, 0, none⟩), .int .i64 d.length] w' (Ret e (.int .i64 q) (poolH pb tb rb S :: Y))) := Lib.hid fun w' Y h => by
    have h3 := poNeed h d.length h1d h2d (hP.bkok (by omega))
    rw [← hq]
    exact h3
  go_enter Tryz.func28, Tryz.ntmps28
  go_wp2_with fail
  refine (CND.out _ _ H1).mono ?_
  rintro en w1 ⟨rfl, H2⟩
  clear CND H1
  go_wp2_with fail
  refine (hRA.out _ _ H2).mono ?_
  rintro en w2 ⟨rfl, H3⟩
  clear H2 hRA
  obtain ⟨f, X, hf, HF, hback⟩ := ram_fr H3.p2
  have HB := Lib.hid hback
  have CC := Lib.hid (ramCount ((HF.alloc (.cells #[.int .i64 0] 3)).drop) 0 (.slice (some ⟨w2.heap.size, 0, none⟩) 1 1) (fun n => Reads.drewN (reads_lit1 w2 (.int .i64 0) 3)))
  rw [hC0] at CC
  have H3c : Hid (∀ w', Holds e w' (frH f M.fr :: X :: poolH pb tb rb S :: oH (.slice la L.length lc) L :: bts (.slice ba d.length bc) d :: R) → Holds e w' (poolH pb tb rb S :: ramH rb M :: bts (.slice ba d.length bc) d :: oH (.slice la L.length lc) L :: R)) := Lib.hid fun w' h => by
    have h2 : Holds e w' (ramH rb M :: poolH pb tb rb S :: oH (.slice la L.length lc) L :: bts (.slice ba d.length bc) d :: R) := HB.out w' h
    exact h2.swap.cons fun _ s => Sat.cons (fun _ => Sat.q1) s
  clear H3 HF hback HB
  obtain ⟨fl, hfl⟩ : ∃ fl, M.fr.free.length = fl := ⟨_, rfl⟩
  rw [hfl] at CC hf96
  obtain ⟨c3, hc3⟩ : ∃ c3, M.fr.count [3] = c3 := ⟨_, rfl⟩
  rw [hc3] at hFR hC3
  have HFL := Lib.hid hfl
  have HC3 := Lib.hid hc3
  clear hfl hc3 hC0
  go_wp2_with fail
  refine CC.out.mono ?_
  rintro en w3 ⟨rfl, H4⟩
  have H5 := H3c.out _ H4
  clear CC H4 H3c
  go_wp2_with fail
  refine (hFR.out _ _ H5).mono ?_
  rintro en w4 ⟨rfl, H6⟩
  clear H5
  have CAL := Lib.hid (poAlloc H6 hP (.slice ba d.length bc) d (fun w' h' => bts.reads h') (by omega))
  rw [hq, HFL.out] at hno
  rw [hq, HC3.out] at hAF
  have HKP := Lib.hid hkeep
  have HK2 := Lib.hid hK2
  have HAT := Lib.hid hAt
  have HAF := Lib.hid hAF
  have hd1 : ¬ (d.length : Int) < 1 := by omega
  have hd4 : ¬ (4096 : Int) < d.length := by omega
  have hqi : ¬ (fl : Int) < q := by omega
  have hl512 : ((L.length : Int) == 512) = false := by simp; omega
  have hL6 : L.length ≤ 1000000 := by omega
  clear hP hK hq A hkeep hK2 hAt hAF hm hmn
  obtain ⟨r, hr⟩ : ∃ r, S.alloc M d = r := ⟨_, rfl⟩
  rw [hr] at CAL HK2 HAF HKP hres hP2
  clear hr
  obtain ⟨⟨r1, r2⟩, M2, S2⟩ := r
  dsimp only at CAL HK2 HAF HKP hres hP2
  cases hres
  have hFR2 := Lib.hid fun (w' : World) (Y : List HP) (h : Holds e w' (poolH pb tb rb S2 :: Y)) => framesAny hP2 h
  rw [HAF.out] at hFR2
  have CAT : Hid (∀ w' Y, Holds e w' (oH (.slice la L.length lc) L :: Y) → Calls Tryz.prog 64 #[.slice la L.length lc, .int .i64 x] w' (Ret e (.int .i64 (-1)) (oH (.slice la L.length lc) L :: Y))) := Lib.hid fun w' Y h => by
    have := r20At L (.slice la L.length lc) x hL6 h
    rw [HAT.out] at this
    exact this
  clear hP2
  go_wp2_with fail
  refine CAL.out.mono ?_
  rintro en w5 ⟨rfl, H7⟩
  have H8 : Holds e w5 (oH (.slice la L.length lc) L :: poolH pb tb rb S2 :: ramH rb M2 :: bts (.slice ba d.length bc) d :: R) := H7.imp fun _ s => (Take.there _ (Take.there _ (Take.there _ (Take.here _ _)))) _ s
  clear CAL H6 H7
  go_wp2_with fail
  refine (CAT.out _ _ H8).mono ?_
  rintro en w6 ⟨rfl, H9⟩
  clear H8 CAT
  go_wp2_with fail
  refine (hFR2.out _ _ H9.swap).mono ?_
  rintro en w7 ⟨rfl, H10⟩
  have hcq : (((c3 + q : Nat) : Int) == (c3 : Int) + (q : Int)) = true := by simp
  have CPT := Lib.hid (r20Put (R := bts (.slice ba d.length bc) d :: poolH pb tb rb S2 :: ramH rb M2 :: R) L (.slice la L.length lc) x (.slice ba d.length bc) d hL6 (by omega) (fun w' h' => bts.reads h') (H10.swap.imp fun _ s => Sat.cons (fun _ s => (Take.there _ (Take.there _ (Take.here _ _))) _ s) s))
  clear H9 H10 hFR2
  go_wp2_with fail
  refine CPT.out.mono ?_
  rintro en w8 ⟨vp, rfl, H11⟩
  clear CPT
  go_wp2_with fail
  go_ret2
  exact ⟨(vp, L ++ [((x : Int), d)], M2, S2), rfl, Holds.mkPur ⟨HK2.out, HKP.out⟩ H11.d1⟩
end
end Go.Proofs.YtheblkofemobdaaGreat

/-
  gunnylaw20: alloc as a whole; shift.
-/
namespace Go.Proofs.YtheblkofemobdaaGreat
open Go.RowKit

theorem shift_count {M : RamS} {S : PoolS} (hP : PoolOk M S) (x : Int) : (S.shift1 M x).2.1.fr.count [3] ≤ M.fr.count [3] := by
  cases hx : S.tab.inb x with
  | false => rw [shift_no1 hx]; exact Nat.le_refl _
  | true =>
    cases hb : shiftTo S x with
    | none => rw [shift_no2 hb]; exact Nat.le_refl _
    | some m =>
      obtain ⟨n, ob, ln, g, g2, k, L, V, hg2, hmn, hm4, hI, hc2, hbb, hgo, ⟨g', hg', ho'⟩, e0, F⟩ := shift_law hP hx hb
      rw [e0]
      dsimp only
      have hfr : (shiftS M S g g2 x n ob ln m k).1.fr = M.fr := by
        unfold shiftS
        dsimp only
        unfold givePg shiftM putPg
        dsimp only
        rw [wr_fr, wr_fr]
        rfl
      have hK := (F.ok.pgs.frames)
      unfold noteF
      rw [hg']
      dsimp only
      split
      · rw [hfr]; exact Nat.le_refl _
      · have h2 := count_row (F := (shiftS M S g g2 x n ob ln m k).1.fr) (F' := ((shiftS M S g g2 x n ob ln m k).1.giveL g'.row).fr) (row := g'.row) (u := 3) (v := 0) (giveL_len _ _) ho'.nd (fun r hr => ⟨ho'.rowIn r hr, ho'.own r hr⟩) (giveL_own ho'.rowIn) [3]
        simp at h2
        dsimp only
        rw [hfr] at h2
        omega
section
variable {e : Env} {w : World} {R : List HP} {pb tb rb : Nat} {S : PoolS} {M : RamS}
theorem alloc20 {vl vb : Value} {L : List OE} {d : List UInt8} (hK : Kept M S L) (hdl : d.length ≤ 9000) (H : Holds e w (oH vl L :: poolH pb tb rb S :: ramH rb M :: bts vb d :: R)) :
    Calls Tryz.prog 28 #[.pointer (some ⟨pb, 0, none⟩), vl, vb] w (RetEx e (fun r : AR => .tuple #[r.1, .bool true]) (allocPost pb tb rb M R)) := by
  by_cases h0 : d.length < 1 ∨ 4096 < d.length
  · exact alloc20_bad hK hdl h0 H
  · by_cases h1 : 512 ≤ S.tab.many ∨ M.fr.free.length < needP S d.length
    · exact alloc20_no hK (by omega) (by omega) h1 H
    · exact alloc20_ok hK (by omega) (by omega) (by omega) (by omega) H
def shiftPost (pb tb rb : Nat) (M : RamS) (vl : Value) (L : List OE) (R : List HP) (q : RamS × PoolS) : List HP := pur (Kept q.1 q.2 L ∧ Keep M q.1) :: oH vl L :: poolH pb tb rb q.2 :: ramH rb q.1 :: R
set_option maxRecDepth 100000 in
set_option maxHeartbeats 2000000 in
theorem shift20 {vl : Value} {L : List OE} (hK : Kept M S L) (x : Int) (H : Holds e w (oH vl L :: poolH pb tb rb S :: ramH rb M :: R)) :
    Calls Tryz.prog 29 #[.pointer (some ⟨pb, 0, none⟩), vl, .int .i64 x] w (RetEx e (fun _ : RamS × PoolS => .bool true) (shiftPost pb tb rb M vl L R)) := by
  have hP := hK.ok
  have hL6 : L.length ≤ 1000000 := by have := hK.len512; omega
  have hC3 : M.fr.count [3] ≤ 96 := Nat.le_trans (List.length_filter_le _ _) hP.pgs.fr.n96
  obtain ⟨la, lc, rfl⟩ := o_shape H
  have hFR := Lib.hid fun (w' : World) (Y : List HP) (h : Holds e w' (poolH pb tb rb S :: Y)) => framesAny hP h
  cases hx : S.tab.inb x with
  | false =>
    have CW := poWhere H.swap x
    rw [show S.tab.get x = (PlaceS.zero, false) by unfold TabS.get; rw [hx]; rfl] at CW
    unfold PlaceS.val PlaceS.zero at CW
    dsimp only at CW
    have CW := Lib.hid CW
    have CS : Hid (∀ w' Y, Holds e w' (poolH pb tb rb S :: Y) → Calls Tryz.prog 21 #[.pointer (some ⟨pb, 0, none⟩), .int .i64 x] w' (Ret e (.bool false) (poolH pb tb rb S :: Y))) := Lib.hid fun w' Y h => poShift_no (p := PlaceS.zero) h (by unfold TabS.get; rw [hx]; rfl)
    have CA : Hid (∀ w' Y, Holds e w' (oH (.slice la L.length lc) L :: Y) → Calls Tryz.prog 64 #[.slice la L.length lc, .int .i64 x] w' (Ret e (.int .i64 (-1)) (oH (.slice la L.length lc) L :: Y))) := Lib.hid fun w' Y h => by
      have := r20At L (.slice la L.length lc) x hL6 h
      rw [hK.no hx] at this
      exact this
    have HK := Lib.hid hK
    clear hP hK H hx
    go_enter Tryz.func29, Tryz.ntmps29
    go_wp2_with fail
    refine CW.out.mono ?_
    rintro en w1 ⟨rfl, H1⟩
    have H2 := (H1.alloc (.cells #[.int .i64 0, .int .i64 0, .int .i64 0] 51)).drop
    clear CW H1
    go_wp2_with fail
    refine (hFR.out _ _ H2).mono ?_
    rintro en w2 ⟨rfl, H3⟩
    clear H2 hFR
    go_wp2_with fail
    refine (CS.out _ _ H3).mono ?_
    rintro en w3 ⟨rfl, H4⟩
    clear H3 CS
    go_wp2_with fail
    refine (CA.out _ _ H4.swap).mono ?_
    rintro en w4 ⟨rfl, H5⟩
    clear H4 CA
    go_wp2_with fail
    go_ret
    exact ⟨(M, S), rfl, Holds.mkPur ⟨HK.out, Keep.refl M⟩ H5⟩
  | true =>
    obtain ⟨n, ob, ln, g, V, hxx, hx1, hx2⟩ := hP.at hx
    have CW := poWhere H.swap x
    rw [show S.tab.get x = (⟨(n : Nat), (ob : Nat), (ln : Nat)⟩, true) by unfold TabS.get; rw [if_pos hx, V.eq]] at CW
    unfold PlaceS.val at CW
    dsimp only at CW
    have CW := Lib.hid CW
    obtain ⟨c, hc⟩ : ∃ c, (ln - 1) / 64 = c := ⟨_, rfl⟩
    have hl1 := V.l1
    have hl2 := V.l2
    have hc64 : c < 64 := by omega
    have hto : shiftTo S x = bestB (S.bks c) [(n : Int)] := by unfold shiftTo; rw [V.eq, clsP_nat, hc]
    have hpl := hP.len
    have hn512 : n < 512 := by have := (List.getElem?_eq_some_iff.1 V.pg).1; omega
    have CSH := Lib.hid fun (w' : World) (Y : List HP) (h : Holds e w' (poolH pb tb rb S :: Y)) => poSheets h (by omega) hP.rows
    have CBE : Hid (∀ w' v Y, Holds e w' (shH v (sheetsOf S.pgs 0) :: Y) → Calls Tryz.prog 15 #[v, .int .i64 c, .int .i64 n] w' (Ret e (.int .i64 (bestInt (shiftTo S x))) (shH v (sheetsOf S.pgs 0) :: Y))) := Lib.hid fun w' v Y h => by
      rw [hto]
      exact bestPool hP h hc64 (n : Int)
    have HD0 : Hid (IntKind.i64.wrap ((ln : Int) - 1) = (ln : Int) - 1 ∧ ((ln : Int) - 1).tdiv 64 = (c : Int) ∧ ((ln : Int) - 1) / 64 = (c : Int) ∧ IntKind.i64.wrap (c : Int) = (c : Int)) := Lib.hid ⟨IntWalk.i64_in _ (by omega), by rw [Int.tdiv_eq_ediv_of_nonneg (by omega)]; omega, by omega, IntWalk.i64_in _ (by omega)⟩
    have HK := Lib.hid hK
    have HPO := Lib.hid hP
    have HV := Lib.hid V
    have HX := Lib.hid hx
    obtain ⟨bx, hbx⟩ : ∃ bx : Nat, bx = bx := ⟨0, rfl⟩
    clear hP hK H hx hto hpl V hc hbx bx hxx hx1 hx2
    go_enter Tryz.func29, Tryz.ntmps29
    go_wp2_with fail
    refine CW.out.mono ?_
    rintro en w1 ⟨rfl, H1⟩
    have H2 := (H1.alloc (.cells #[.int .i64 n, .int .i64 ob, .int .i64 ln] 51))
    obtain ⟨bx, hbx⟩ : ∃ bx, w1.heap.size = bx := ⟨_, rfl⟩
    rw [hbx] at H2
    clear CW H1
    go_wp2_with fail
    refine (hFR.out _ _ H2.swap).mono ?_
    rintro en w2 ⟨rfl, H3⟩
    have HKC : Hid (∀ w' X Y, Holds e w' (X :: pts bx (.cells #[.int .i64 n, .int .i64 ob, .int .i64 ln] 51 (0, 0)) :: Y) → w'.cell? ⟨bx, 0, none⟩ = some (.int .i64 n) ∧ w'.cell? ⟨bx, 2, none⟩ = some (.int .i64 ln) ∧ w'.cell? ⟨bx, 1, none⟩ = some (.int .i64 ob)) := Lib.hid fun w' X Y h => ⟨h.swap.cells 0, h.swap.cells 2, h.swap.cells 1⟩
    clear H2
    go_wp2_with fail
    obtain ⟨j0, j2, j1⟩ := HKC.out _ _ _ H3
    have HD := H3.drawn (w2.drawn + 1)
    obtain ⟨hd1, hd2, hd3, hd4⟩ := HD0.out
    first | go_region_held3 (fun w' => w'.cell? ⟨bx, 0, none⟩ = some (.int .i64 n) ∧ w'.cell? ⟨bx, 2, none⟩ = some (.int .i64 ln))
      (first | exact ⟨(HKC.out _ _ _ (by assumption)).1, (HKC.out _ _ _ (by assumption)).2.1⟩ | exact ⟨(HKC.out _ _ _ (Holds.drop (by assumption))).1, (HKC.out _ _ _ (Holds.drop (by assumption))).2.1⟩)
      (first
        | (go_at_call 14; refine (CSH.out _ _ (by assumption)).mono ?_; rintro e w4 ⟨vs, rfl, HN⟩)
        | (go_at_call 15; refine (CBE.out _ _ _ HN).mono ?_; rintro e w5 ⟨rfl, HB⟩)) | fail
    all_goals
      have H4 := HB.drop
      clear HN HB HD H3 CSH CBE j0 j1 j2 hd1 hd2 hd3 hd4
      have H5 := H4.p3.swap
      have CSF := Lib.hid (poShift H5 HPO.out x)
      cases hb : shiftTo S x with
      | none =>
        rw [shift_no2 hb] at CSF
        have CW2 : Hid (∀ w' Y, Holds e w' (poolH pb tb rb S :: Y) → Calls Tryz.prog 19 #[.pointer (some ⟨pb, 0, none⟩), .int .i64 x] w' (Ret e (.tuple #[.agg #[.int .i64 n, .int .i64 ob, .int .i64 ln], .bool true]) (poolH pb tb rb S :: Y))) := Lib.hid fun w' Y h => by
          have h1 := poWhere h x
          rw [show S.tab.get x = (⟨(n : Nat), (ob : Nat), (ln : Nat)⟩, true) by unfold TabS.get; rw [if_pos HX.out, HV.out.eq]] at h1
          exact h1
        have hgt : ¬ (M.fr.count [3] : Int) < (M.fr.count [3] : Int) := by omega
        clear H4 hb
        generalize M.fr.count [3] = c3 at *
        unfold bestInt
        dsimp only at CSF ⊢
        go_wp2_with fail
        refine CSF.out.mono ?_
        rintro en w6 ⟨rfl, H6⟩
        clear H5 CSF
        go_wp2_with fail
        refine (CW2.out _ _ H6).mono ?_
        rintro en w7 ⟨rfl, H7⟩
        have H8 := H7.alloc (.cells #[.int .i64 n, .int .i64 ob, .int .i64 ln] 51)
        obtain ⟨by', hby⟩ : ∃ by', w7.heap.size = by' := ⟨_, rfl⟩
        rw [hby] at H8
        clear H6 H7 CW2
        go_wp2_with fail
        refine (hFR.out _ _ H8.swap).mono ?_
        rintro en w8 ⟨rfl, H9⟩
        have p0 := H9.swap.cells 0
        have p1 := H9.swap.cells 1
        have p2 := H9.swap.cells 2
        have hz := H9.p3
        have s0 := hz.cells 0
        have s1 := hz.cells 1
        have s2 := hz.cells 2
        have hAg := H9
        clear H8 hz
        go_wp2_with fail
        go_ret
        refine ⟨(M, S), rfl, Holds.mkPur ⟨HK.out, Keep.refl M⟩ ?_⟩
        exact hAg.d1.d2.p2
      | some m =>
        obtain ⟨n', ob', ln', g', g2', k', L', _, _, _, _, _, _, _, _, _, e0, F⟩ := shift_law HPO.out HX.out hb
        have hcnt := shift_count HPO.out x
        rw [e0] at CSF F hcnt
        dsimp only at CSF F hcnt
        generalize noteF (shiftS M S g' g2' x n' ob' ln' m k').1 (shiftS M S g' g2' x n' ob' ln' m k').2 n' = q at *
        obtain ⟨M2, S2⟩ := q
        dsimp only at CSF F hcnt
        have hK2 := HK.out.shift F
        obtain ⟨k2, hpl2⟩ := F.place
        have hln : (S.tab.all x.toNat).len = (ln : Int) := by rw [HV.out.eq]
        rw [hln] at hpl2
        dsimp only at hpl2 hK2
        have hget : S2.tab.get x = (⟨(m : Nat), (k2 : Nat), (ln : Nat)⟩, true) := by
          obtain ⟨i1, i2, _⟩ := TabS.inb_yes HX.out
          unfold TabS.get TabS.inb
          rw [hpl2, decide_eq_true ⟨i1, i2, place_nz _ _ hl1⟩]
          rfl
        have CW2 : Hid (∀ w' Y, Holds e w' (poolH pb tb rb S2 :: Y) → Calls Tryz.prog 19 #[.pointer (some ⟨pb, 0, none⟩), .int .i64 x] w' (Ret e (.tuple #[.agg #[.int .i64 m, .int .i64 k2, .int .i64 ln], .bool true]) (poolH pb tb rb S2 :: Y))) := Lib.hid fun w' Y h => by
          have h1 := poWhere h x
          rw [hget] at h1
          exact h1
        have hFR2 := Lib.hid fun (w' : World) (Y : List HP) (h : Holds e w' (poolH pb tb rb S2 :: Y)) => framesAny hK2.ok h
        have HR2 : Hid (Kept M2 S2 L ∧ Keep M M2) := Lib.hid ⟨hK2, F.keep⟩
        have hgt : ¬ (M.fr.count [3] : Int) < (M2.fr.count [3] : Int) := by omega
        have hge : (0 : Int) ≤ (m : Int) := by omega
        clear H4 hb F hK2 hpl2 hln hget e0 hFR
        have hC32 : M2.fr.count [3] ≤ 96 := by omega
        clear hcnt
        generalize M.fr.count [3] = c3 at *
        generalize M2.fr.count [3] = c4 at *
        unfold bestInt
        dsimp only
        go_wp2_with fail
        refine CSF.out.mono ?_
        rintro en w6 ⟨rfl, H6⟩
        clear H5 CSF
        go_wp2_with fail
        refine (CW2.out _ _ H6).mono ?_
        rintro en w7 ⟨rfl, H7⟩
        have H8 := H7.alloc (.cells #[.int .i64 m, .int .i64 k2, .int .i64 ln] 51)
        obtain ⟨by', hby⟩ : ∃ by', w7.heap.size = by' := ⟨_, rfl⟩
        rw [hby] at H8
        clear H6 H7 CW2
        go_wp2_with fail
        refine (hFR2.out _ _ H8.swap).mono ?_
        rintro en w8 ⟨rfl, H9⟩
        have p0 := H9.swap.cells 0
        have p1 := H9.swap.cells 1
        have p2 := H9.swap.cells 2
        have hz := H9.p3
        have s0 := hz.cells 0
        have s1 := hz.cells 1
        have s2 := hz.cells 2
        have hAg := H9
        clear H8 hz
        go_wp2_with fail
        go_ret
        refine ⟨(M2, S2), rfl, Holds.mkPur HR2.out ?_⟩
        exact hAg.d1.d2.p2
end
end Go.Proofs.YtheblkofemobdaaGreat

/-
  gunnylaw20: sheets.
-/
namespace Go.Proofs.YtheblkofemobdaaGreat
open Go.RowKit

def bools (l : List Bool) : List Value := l.map Value.bool
def objsL (l : List (Nat × PgS)) : List Int := (List.range 64).map fun c : Nat => ((objectsOf l (c : Int) : Nat) : Int)
def mineL (l : List Nat) : List Bool := (List.range 96).map fun j => decide (j ∈ l)
theorem objsL_get (l : List (Nat × PgS)) {c : Nat} (hc : c < 64) : (objsL l)[c]? = some ((objectsOf l (c : Int) : Nat) : Int) := by
  unfold objsL
  rw [List.getElem?_map, List.getElem?_range hc]
  rfl
theorem mineL_get (l : List Nat) {j : Nat} (hj : j < 96) : (mineL l)[j]? = some (decide (j ∈ l)) := by
  unfold mineL
  rw [List.getElem?_map, List.getElem?_range hj]
  rfl
theorem objectsOf_snoc (l : List (Nat × PgS)) (p : Nat × PgS) (c : Int) : objectsOf (l ++ [p]) c = objectsOf l c + if (p.2.cls : Int) = c then cnt p.2.set else 0 := by
  simp [objectsOf]
theorem objsL_snoc (l : List (Nat × PgS)) (p : Nat × PgS) (hc : p.2.cls < 64) : objsL (l ++ [p]) = (objsL l).set p.2.cls (((objectsOf l (p.2.cls : Int) : Nat) : Int) + (cnt p.2.set : Int)) := by
  apply List.ext_getElem?
  intro i
  rw [List.getElem?_set]
  have hl : (objsL l).length = 64 := by simp [objsL]
  have hl2 : (objsL (l ++ [p])).length = 64 := by simp [objsL]
  by_cases hi : i < 64
  · rw [objsL_get _ hi, objectsOf_snoc]
    by_cases e : p.2.cls = i
    · subst e
      rw [if_pos rfl, if_pos rfl, if_pos (by omega)]
      congr 1
    · rw [if_neg e, if_neg (by omega), objsL_get _ hi]; rfl
  · rw [List.getElem?_eq_none (by omega), if_neg (by omega), List.getElem?_eq_none (by omega)]
theorem mineL_snoc (l : List Nat) (n : Nat) (hn : n < 96) : mineL (l ++ [n]) = (mineL l).set n true := by
  apply List.ext_getElem?
  intro i
  rw [List.getElem?_set]
  have hl : (mineL l).length = 96 := by simp [mineL]
  have hl2 : (mineL (l ++ [n])).length = 96 := by simp [mineL]
  by_cases hi : i < 96
  · rw [mineL_get _ hi]
    by_cases e : n = i
    · subst e
      rw [if_pos rfl, if_pos (by omega)]
      simp
    · rw [if_neg e, mineL_get _ hi]
      congr 1
      simp only [List.mem_append, List.mem_singleton, decide_eq_decide]
      constructor
      · rintro (h | h)
        · exact h
        · exact absurd h.symm e
      · exact .inl
  · rw [List.getElem?_eq_none (by omega), if_neg (by omega), List.getElem?_eq_none (by omega)]
theorem bools_set (l : List Bool) (i : Nat) (b : Bool) : (bools l).toArray.setIfInBounds i (.bool b) = (bools (l.set i b)).toArray := by
  simp [bools, List.map_set]
theorem boolsA_get {l : List Bool} {i : Nat} {b : Bool} (h : l[i]? = some b) : (bools l).toArray[i]? = some (.bool b) := by simp [bools, h]
theorem intsA_getS {l : List Int} {i : Nat} {b : Int} (h : l[i]? = some b) : (ints l).toArray[i]? = some (.int .i64 b) := by simp [ints, h]
theorem ints_getS {l : List Int} {i : Nat} {x : Int} (h : l[i]? = some x) : (ints l)[i]? = some (.int .i64 x) := by simp [ints, h]
structure SheetF (M : RamS) (p : Nat × PgS) : Prop where
  cls : p.2.cls < 64
  len : p.2.row.length = cFrames p.2.cls
  set : p.2.set.length = cObjects p.2.cls
  pos : 0 < cnt p.2.set
  own : ∀ r ∈ p.2.row, r < 96 ∧ M.fr.own (r : Int) = 3
theorem PoolOk.sheetF {M : RamS} {S : PoolS} (h : PoolOk M S) {p : Nat × PgS} (hp : p ∈ sheetsOf S.pgs 0) : SheetF M p ∧ p.1 < 512 := by
  obtain ⟨h1, Lf, hI⟩ := h.sheet hp
  have h2 := h.pgs.fr.n96
  have h3 := h.len
  have h4 := (List.getElem?_eq_some_iff.1 h1).1
  exact ⟨⟨hI.ok.cls, hI.ok.len, hI.ok.set, h.pos _ _ h1, fun r hr => ⟨by have := hI.ok.rowIn r hr; omega, hI.ok.own r hr⟩⟩, by omega⟩
theorem z96 : Tryz.zeroCells136 = (bools (mineL [])).toArray := by kernel_rfl
theorem z64 : (List.replicate 64 (Value.int .i64 0)).toArray = (ints (objsL [])).toArray := by kernel_rfl
def shObj (l : List (Nat × PgS)) : Obj := .cells (ints (objsL l)).toArray 135 (0, 0)
def shMine (l : List Nat) : Obj := .cells (bools (mineL l)).toArray 136 (0, 0)
section
variable {e : Env} {w : World} {R : List HP} {pb tb rb : Nat} {S : PoolS} {M : RamS}
set_option maxRecDepth 100000 in
set_option maxHeartbeats 4000000 in
theorem sheets20 {vl : Value} {L : List OE} (hK : Kept M S L) (H : Holds e w (poolH pb tb rb S :: ramH rb M :: oH vl L :: R)) :
    Calls Tryz.prog 66 #[.pointer (some ⟨pb, 0, none⟩), vl] w (Ret e (.bool true) (poolH pb tb rb S :: ramH rb M :: oH vl L :: R)) := by
  have hP := hK.ok
  have hpl := hP.len
  have hsl := sheetsOf_le S.pgs 0
  obtain ⟨la, lc, rfl⟩ := o_shape H.p2
  have CSH := Lib.hid (poSheets H (by omega) hP.rows)
  have HK := Lib.hid hK
  obtain ⟨Ls, hLs⟩ : ∃ Ls, sheetsOf S.pgs 0 = Ls := ⟨_, rfl⟩
  rw [hLs] at CSH hsl
  have HLS := Lib.hid hLs
  have hls : Ls.length ≤ 512 := by omega
  clear hK hpl hsl hLs H
  go_enter Tryz.func66, Tryz.ntmps66
  go_wp2_with fail
  refine CSH.out.mono ?_
  rintro en w1 ⟨v, rfl, H1⟩
  obtain ⟨sa, sc, Q, rfl, hQ, H2⟩ := sh_open H1
  have hql : Q.length = Ls.length := by rw [← hQ, List.length_map]
  rw [hql] at H2
  have HQ := Lib.hid hQ
  have HQL := Lib.hid hql
  clear CSH H1 hQ hql
  have HSF := Lib.hid fun p (hp : p ∈ Ls) => hP.sheetF (HLS.out ▸ hp)
  have HAS : Hid ((Ls.map (·.1)).Pairwise (· < ·)) := Lib.hid (HLS.out ▸ (sheets_asc S.pgs 0).1)
  have HND : Hid (rowsOf Ls).Nodup := Lib.hid (HLS.out ▸ rows_nd hP.pgs)
  have H3 := Lib.hid ((H2.alloc (.cells (List.replicate 64 (Value.int .i64 0)).toArray 135)).alloc (.cells Tryz.zeroCells136 136)).swap
  obtain ⟨b7, hb7⟩ : ∃ b7, w1.heap.size = b7 := ⟨_, rfl⟩
  have H4 : Holds e ((w1.alloc (.cells (List.replicate 64 (Value.int .i64 0)).toArray 135)).alloc (.cells Tryz.zeroCells136 136)) (pts b7 (shObj []) :: pts (b7 + 1) (shMine []) :: row (.slice sa Ls.length sc) 45 5 Ls.length (Q.flatMap shCells) :: all shRow Q :: poolH pb tb rb S :: ramH rb M :: oH (.slice la L.length lc) L :: R) := by
    have h := H3.out
    rw [heap_alloc1, hb7] at h
    unfold shObj shMine
    rw [← z96, ← z64]
    exact h
  have hP' := Lib.hid hP
  clear H2 H3 hP
  go_wp2_with fail
  go_loopw [6, 9] (fun fr i wr => ∃ k, k ≤ Ls.length ∧ i = .int .i64 (k : Nat) ∧ fr = .int .i64 (framesOf (Ls.take k)) ∧ Holds e wr (pts b7 (shObj (Ls.take k)) :: pts (b7 + 1) (shMine (rowsOf (Ls.take k))) :: row (.slice sa Ls.length sc) 45 5 Ls.length (Q.flatMap shCells) :: all shRow Q :: poolH pb tb rb S :: ramH rb M :: oH (.slice la L.length lc) L :: R)) (fun _ i _ => Ls.length - (intOf i).toNat)
  case atStart => exact ⟨0, by omega, rfl, rfl, H4⟩
  case round =>
    obtain ⟨k, hk, rfl, rfl, HX⟩ := hrel
    clear H4
    by_cases hlt : k < Ls.length
    · obtain ⟨q, hq⟩ : ∃ q, Q[k]? = some q := ⟨_, List.getElem?_eq_getElem (by rw [HQL.out]; exact hlt)⟩
      have hLk : Ls[k]? = some q.1 := by rw [← HQ.out, List.getElem?_map, hq]; rfl
      obtain ⟨F, hp512⟩ := HSF.out q.1 (List.mem_of_getElem? hLk)
      obtain ⟨g0, o0, rfl, _⟩ := (row.reads HX.p2).at (by omega)
      have HCE := Lib.hid fun (w' : World) (j : Nat) (q : ShQ) (X Y : HP) (Z : List HP) (h' : Holds e w' (X :: Y :: row (.slice (some ⟨g0, o0, none⟩) Ls.length sc) 45 5 Ls.length (Q.flatMap shCells) :: Z)) (hq : Q[j]? = some q) => (⟨rowf_cell shCells 5 shCells_len (row.reads h'.p2) hq (j := 0) rfl, rowf_cell shCells 5 shCells_len (row.reads h'.p2) hq (j := 1) rfl, rowf_cell shCells 5 shCells_len (row.reads h'.p2) hq (j := 2) rfl, rowf_cell shCells 5 shCells_len (row.reads h'.p2) hq (j := 3) rfl, rowf_cell shCells 5 shCells_len (row.reads h'.p2) hq (j := 4) rfl⟩ : w'.cell? ⟨g0, o0 + j * 5, none⟩ = some (.int .i64 (q.1.1 : Int)) ∧ w'.cell? ⟨g0, o0 + j * 5 + 1, none⟩ = some (.int .i64 (q.1.2.cls : Int)) ∧ w'.cell? ⟨g0, o0 + j * 5 + 2, none⟩ = some (.int .i64 (cnt q.1.2.set : Int)) ∧ w'.cell? ⟨g0, o0 + j * 5 + 3, none⟩ = some (.int .i64 (q.1.2.set.length : Int)) ∧ w'.cell? ⟨g0, o0 + j * 5 + 4, none⟩ = some q.2)
      have HRW := Lib.hid fun (w' : World) (X Y Z : HP) (W : List HP) (h' : Holds e w' (X :: Y :: Z :: all shRow Q :: W)) => row.reads (Holds.focus (f := shRow) hq (h'.p3))
      obtain ⟨ra, rc, hqv⟩ := (HRW.out _ _ _ _ _ HX).shape
      obtain ⟨q0, q1, q2, q3, q4⟩ := HCE.out _ _ _ _ _ _ HX hq
      have HQK := Lib.hid hq
      have HLK := Lib.hid hLk
      have HF := Lib.hid F
      obtain ⟨⟨pn, g⟩, qv⟩ := q
      dsimp only at *
      subst hqv
      have hcl : g.cls < 64 := F.cls
      have hu0 : 0 < cnt g.set := F.pos
      have hum := cnt_le g.set
      have hm256 : g.set.length ≤ 256 := by rw [F.set]; exact (cObjects_bd hcl).2
      have hr4 : g.row.length ≤ 4 := by rw [F.len]; exact (cFrames_bd _).2
      have C1 : Hid (∀ w', Calls Tryz.prog 16 #[.int .i64 g.cls] w' (Quiet w' (.int .i64 g.row.length))) := Lib.hid fun w' => by
        have := r15Frames (w := w') g.cls hcl
        rw [← F.len] at this
        exact this
      have C2 : Hid (∀ w', Calls Tryz.prog 86 #[.int .i64 g.cls, .int .i64 g.row.length] w' (Quiet w' (.int .i64 g.set.length))) := Lib.hid fun w' => by
        have := r15Objects (w := w') g.cls g.row.length hcl hr4
        rw [show rObjects g.cls g.row.length = g.set.length by rw [F.len, F.set]; exact rObjects_cls _] at this
        exact this
      have HFO : Hid (framesOf (Ls.take (k + 1)) = framesOf (Ls.take k) + g.row.length) := Lib.hid (by rw [List.take_add_one, hLk]; simp [framesOf])
      have HOB := Lib.hid (show objsL (Ls.take (k + 1)) = (objsL (Ls.take k)).set g.cls (((objectsOf (Ls.take k) (g.cls : Int) : Nat) : Int) + (cnt g.set : Int)) by rw [List.take_add_one, hLk]; exact objsL_snoc _ _ hcl)
      have HRO : Hid (rowsOf (Ls.take (k + 1)) = rowsOf (Ls.take k) ++ g.row) := Lib.hid (by rw [List.take_add_one, hLk]; simp [rowsOf])
      have HNX : Hid (rowsOf (Ls.take k) ++ g.row).Nodup := Lib.hid (by
        rw [← HRO.out]
        have h1 : rowsOf Ls = rowsOf (Ls.take (k + 1)) ++ rowsOf (Ls.drop (k + 1)) := by unfold rowsOf; rw [← List.flatMap_append, List.take_append_drop]
        have h2 := HND.out
        rw [h1] at h2
        exact (List.nodup_append.1 h2).1)
      have hfo : framesOf (Ls.take k) ≤ 4 * 512 := by
        have := framesOf_le (L := Ls.take k) fun p hp => by
          obtain ⟨F', _⟩ := HSF.out p (List.mem_of_mem_take hp)
          rw [F'.len]; exact (cFrames_bd _).2
        rw [List.length_take] at this
        omega
      have hob : objectsOf (Ls.take k) (g.cls : Int) ≤ 256 * 512 := by
        have := objectsOf_le (c := (g.cls : Int)) (L := Ls.take k) fun p hp => by
          obtain ⟨F', _⟩ := HSF.out p (List.mem_of_mem_take hp)
          rw [F'.set]; exact (cObjects_bd F'.cls).2
        rw [List.length_take] at this
        omega
      have HB7 : Hid (∀ w' Y, Holds e w' (pts b7 (shObj (Ls.take k)) :: Y) → w'.cell? ⟨b7, g.cls, none⟩ = some (.int .i64 ((objectsOf (Ls.take k) (g.cls : Int) : Nat) : Int)) ∧ w'.frozen? ⟨b7, g.cls, none⟩ = false) := Lib.hid fun w' Y h => ⟨by rw [h.cells]; exact intsA_getS (objsL_get _ hcl), h.frozen _⟩
      have HS7 : Hid (∀ w' Y, Holds e w' (pts b7 (shObj (Ls.take k)) :: Y) → Holds e (w'.setCell ⟨b7, g.cls, none⟩ (.int .i64 (((objectsOf (Ls.take k) (g.cls : Int) : Nat) : Int) + (cnt g.set : Int)))) (pts b7 (shObj (Ls.take (k + 1))) :: Y)) := Lib.hid fun w' Y h => by
        have h1 := h.set g.cls (.int .i64 (((objectsOf (Ls.take k) (g.cls : Int) : Nat) : Int) + (cnt g.set : Int)))
        rw [ints_set, ← HOB.out] at h1
        exact h1
      have hki : (k : Int) < Ls.length := by omega
      clear F hq hLk HQL hP'
      have HRA := Lib.hid fun (w' : World) (A0 A1 A2 A3 : HP) (Y : List HP) (h : Holds e w' (A0 :: A1 :: A2 :: A3 :: poolH pb tb rb S :: Y)) => retQ (poRAM h.p4) h
      obtain ⟨rl, hrl⟩ : ∃ rl, g.row.length = rl := ⟨_, rfl⟩
      rw [hrl] at C1 C2 HFO hr4 HRW q4
      by_cases hk0 : k = 0
      · have hki0 : decide ((0 : Int) < (k : Int)) = false := decide_eq_false (by omega)
        have hki1 : decide (0 < k) = false := decide_eq_false (by omega)
        clear hk0
        have d1 : decide ((g.cls : Int) < 0) = false := decide_eq_false (by omega)
        have d2 : decide ((63 : Int) < (g.cls : Int)) = false := decide_eq_false (by omega)
        have d3 : decide ((cnt g.set : Int) < 1) = false := decide_eq_false (by omega)
        have d4 : decide ((g.set.length : Int) < (cnt g.set : Int)) = false := decide_eq_false (by omega)
        have d5 : ¬ ((g.set.length : Int) < (cnt g.set : Int)) := by omega
        have d6 : ¬ (g.set.length < cnt g.set) := by omega
        have d7 : decide (g.set.length < cnt g.set) = false := decide_eq_false d6
        have d8 : ((rl : Int) != (rl : Int)) = false := by simp
        have d9 : ((g.set.length : Int) != (g.set.length : Int)) = false := by simp
        go_wp2_with fail
        obtain ⟨I, Wf, hI, hW, hWs⟩ := worlds_of HX
        have x0 := fun i => (HCE.out _ _ _ _ _ _ (hW i) HQK.out).1
        have x1 := fun i => (HCE.out _ _ _ _ _ _ (hW i) HQK.out).2.1
        have x2 := fun i => (HCE.out _ _ _ _ _ _ (hW i) HQK.out).2.2.1
        have x3 := fun i => (HCE.out _ _ _ _ _ _ (hW i) HQK.out).2.2.2.1
        have x4 := fun i => (HCE.out _ _ _ _ _ _ (hW i) HQK.out).2.2.2.2
        dsimp only at x0 x1 x2 x3 x4
        skip
        have CF := Lib.hid fun i => quietQ (C1.out (Wf i)) (hW i) hWs
        have CO := Lib.hid fun i => quietQ (C2.out (Wf i)) (hW i) hWs
        clear C1 C2 q0 q1 q2 q3 q4
        refine wp_region_holds hWs HX (by kernel_rfl) (by kernel_rfl) ?_
        try simp only [List.append_eq, List.cons_append, List.nil_append]
        (repeat (go_big_quiet_step ((first | (go_at_call 16; exact CF.out _) | (go_at_call 86; exact CO.out _))))); refine wpQuiet_nil ?_; intro _ hw'; obtain ⟨nq, hw''⟩ := hw'; subst hw''
        have H6 := hW nq
        clear x0 x1 x2 x3 x4 CF CO HX
        obtain ⟨q0, q1, q2, q3, q4⟩ := HCE.out _ _ _ _ _ _ H6 HQK.out
        dsimp only at q0 q1 q2 q3 q4
        obtain ⟨j0, j1⟩ := HB7.out _ _ H6
        go_wp2_with fail
        go_region
        have H7 := (HS7.out _ _ H6).drew
        clear H6 j0 j1 q0 q1 q2 q3 q4
        obtain ⟨q0, q1, q2, q3, q4⟩ := HCE.out _ _ _ _ _ _ H7 HQK.out
        dsimp only at q0 q1 q2 q3 q4
        have hrw0 : shMine (rowsOf (Ls.take k)) = shMine (rowsOf (Ls.take k) ++ g.row.take 0) := by rw [List.take_zero, List.append_nil]
        rw [hrw0] at H7
        have H8 := Lib.hid H7
        clear hrw0
        clear H7
        go_wp2_with fail
        go_loopw [11] (fun i wr => ∃ j, j ≤ rl ∧ i = .int .i64 (j : Nat) ∧ Holds e wr (pts b7 (shObj (Ls.take (k + 1))) :: pts (b7 + 1) (shMine (rowsOf (Ls.take k) ++ g.row.take j)) :: row (.slice (some ⟨g0, o0, none⟩) Ls.length sc) 45 5 Ls.length (Q.flatMap shCells) :: all shRow Q :: poolH pb tb rb S :: ramH rb M :: oH (.slice la L.length lc) L :: R)) (fun i _ => rl - (intOf i).toNat)
        case atStart => exact ⟨0, by omega, rfl, H8.out⟩
        case round =>
          obtain ⟨j, hj, rfl, HY⟩ := hrel
          clear H8 q0 q1 q2 q3 q4
          obtain ⟨q0, q1, q2, q3, q4⟩ := HCE.out _ _ _ _ _ _ HY HQK.out
          dsimp only at q0 q1 q2 q3 q4
          clear q0 q1 q2 q3
          by_cases hjl : j < rl
          · have hji : (j : Int) < (rl : Int) := by omega
            obtain ⟨n, hn⟩ : ∃ n, g.row[j]? = some n := ⟨_, List.getElem?_eq_getElem (by omega)⟩
            obtain ⟨hn96, hown⟩ := HF.out.own n (List.mem_of_getElem? hn)
            obtain ⟨g1, o1, hra, hel⟩ := (HRW.out _ _ _ _ _ HY).at (by omega)
            subst hra
            have r0 := hel j (.int .i64 (n : Int)) (by rw [ints_getS (x := (n : Int)) (by unfold nats; rw [List.getElem?_map, hn]; rfl)])
            have HNI : Hid (n ∉ rowsOf (Ls.take k) ++ g.row.take j) := Lib.hid (by
              have h1 := HNX.out
              have h2 : g.row = g.row.take j ++ n :: g.row.drop (j + 1) := (split_at hn).1
              rw [h2, ← List.append_assoc] at h1
              have h3 := (List.nodup_append.1 h1).2.2
              intro hm
              exact h3 n hm n (by simp) rfl)
            have m0 := HY.swap.cells n
            have m1 : ((bools (mineL (rowsOf (Ls.take k) ++ g.row.take j))).toArray)[n]? = some (.bool false) := boolsA_get (by rw [mineL_get _ hn96, decide_eq_false HNI.out])
            rw [m1] at m0
            have HRJ : Hid (rowsOf (Ls.take k) ++ g.row.take (j + 1) = rowsOf (Ls.take k) ++ g.row.take j ++ [n]) := Lib.hid (by rw [List.take_add_one, hn, List.append_assoc]; rfl)
            have HS8 : Hid (∀ w', Holds e w' (pts b7 (shObj (Ls.take (k + 1))) :: pts (b7 + 1) (shMine (rowsOf (Ls.take k) ++ g.row.take j)) :: row (.slice (some ⟨g0, o0, none⟩) Ls.length sc) 45 5 Ls.length (Q.flatMap shCells) :: all shRow Q :: poolH pb tb rb S :: ramH rb M :: oH (.slice la L.length lc) L :: R) → w'.cell? ⟨b7 + 1, n, none⟩ = some (.bool false) ∧ w'.frozen? ⟨b7 + 1, n, none⟩ = false ∧ Holds e (w'.setCell ⟨b7 + 1, n, none⟩ (.bool true)) (pts b7 (shObj (Ls.take (k + 1))) :: pts (b7 + 1) (shMine (rowsOf (Ls.take k) ++ g.row.take (j + 1))) :: row (.slice (some ⟨g0, o0, none⟩) Ls.length sc) 45 5 Ls.length (Q.flatMap shCells) :: all shRow Q :: poolH pb tb rb S :: ramH rb M :: oH (.slice la L.length lc) L :: R)) := Lib.hid fun w' h => by
              refine ⟨(h.swap.cells n).trans m1, h.swap.frozen n, ?_⟩
              have h1 := h.swap.set n (.bool true)
              rw [bools_set, ← mineL_snoc _ _ hn96, ← HRJ.out] at h1
              exact h1.swap
            have hnn0 : decide ((n : Int) < 0) = false := decide_eq_false (by omega)
            have hnn1 : decide ((95 : Int) < (n : Int)) = false := decide_eq_false (by omega)
            have hnn2 : decide (95 < n) = false := decide_eq_false (by omega)
            have hnn3 : (n : Int) < 96 := by omega
            have HOW : Hid (∀ w', Holds e w' (pts b7 (shObj (Ls.take (k + 1))) :: pts (b7 + 1) (shMine (rowsOf (Ls.take k) ++ g.row.take j)) :: row (.slice (some ⟨g0, o0, none⟩) Ls.length sc) 45 5 Ls.length (Q.flatMap shCells) :: all shRow Q :: poolH pb tb rb S :: ramH rb M :: oH (.slice la L.length lc) L :: R) → ∃ f, w'.cell? ⟨rb, 0, none⟩ = some (.pointer (some ⟨f, 0, none⟩)) ∧ Calls Tryz.prog 95 #[.pointer (some ⟨f, 0, none⟩), .int .i64 n] w' (Quiet w' (.int .i64 3))) := Lib.hid fun w' h => by
              obtain ⟨f, X, h1, h2, _⟩ := ram_fr h.p5
              have h3 := frOwner h2 (n : Int)
              rw [hown] at h3
              exact ⟨f, h1, h3⟩
            clear hel hn m1 hown
            go_wp2_with fail
            refine (HRA.out _ _ _ _ _ _ HY).mono ?_
            rintro en w5 ⟨rfl, HZ⟩
            obtain ⟨f, hf, hcO⟩ := HOW.out _ HZ
            have HCO := Lib.hid (retQ hcO HZ)
            clear HY hcO HOW
            go_wp2_with fail
            refine HCO.out.mono ?_
            rintro en w6 ⟨rfl, HY⟩
            obtain ⟨j3, j2, H9⟩ := HS8.out _ HY
            have H9 := Lib.hid H9
            clear HCO hf HZ HS8 HY
            go_wp2_with fail
            go_roundw
            case rel => exact ⟨j + 1, by omega, by go_num, H9.out⟩
            case measure => simp [intOf]; omega
          · have hji : ¬ (j : Int) < (rl : Int) := by omega
            obtain rfl : j = rl := by omega
            have HY2 : Holds e wr (pts b7 (shObj (Ls.take (k + 1))) :: pts (b7 + 1) (shMine (rowsOf (Ls.take (k + 1)))) :: row (.slice (some ⟨g0, o0, none⟩) Ls.length sc) 45 5 Ls.length (Q.flatMap shCells) :: all shRow Q :: poolH pb tb rb S :: ramH rb M :: oH (.slice la L.length lc) L :: R) := by
              rw [HRO.out]
              rw [show g.row.take j = g.row from List.take_of_length_le (by omega)] at HY
              exact HY
            have HY2 := Lib.hid HY2
            clear HY
            go_wp2_with fail
            go_roundw
            case rel => exact ⟨k + 1, by omega, by go_num, by rw [HFO.out]; go_num, HY2.out⟩
            case measure => simp [intOf]; omega
      · have hki0 : decide ((0 : Int) < (k : Int)) = true := decide_eq_true (by omega)
        have hki1 : decide (0 < k) = true := decide_eq_true (by omega)
        obtain ⟨qp, hqp⟩ : ∃ qp, Q[k - 1]? = some qp := ⟨_, List.getElem?_eq_getElem (by have := congrArg List.length HQ.out; rw [List.length_map] at this; omega)⟩
        have HQP := Lib.hid hqp
        have hpp : qp.1.1 < pn := by
          have h1 := List.pairwise_iff_getElem.1 HAS.out (k - 1) k (by rw [List.length_map]; omega) (by rw [List.length_map]; exact hlt) (by omega)
          simp only [List.getElem_map] at h1
          have h2 : Ls[k - 1]? = some qp.1 := by rw [← HQ.out, List.getElem?_map, hqp]; rfl
          rw [(List.getElem?_eq_some_iff.1 h2).2, (List.getElem?_eq_some_iff.1 HLK.out).2] at h1
          exact h1
        have hk1 : ((k : Int) - 1).toNat = k - 1 := by omega
        have hk2 : (0 : Int) ≤ (k : Int) - 1 := by omega
        have hk3 : (k : Int) - 1 < Ls.length := by omega
        have hpi : decide ((pn : Int) ≤ (qp.1.1 : Int)) = false := decide_eq_false (by omega)
        have hpi2 : decide (pn ≤ qp.1.1) = false := decide_eq_false (by omega)
        clear hqp
        have d1 : decide ((g.cls : Int) < 0) = false := decide_eq_false (by omega)
        have d2 : decide ((63 : Int) < (g.cls : Int)) = false := decide_eq_false (by omega)
        have d3 : decide ((cnt g.set : Int) < 1) = false := decide_eq_false (by omega)
        have d4 : decide ((g.set.length : Int) < (cnt g.set : Int)) = false := decide_eq_false (by omega)
        have d5 : ¬ ((g.set.length : Int) < (cnt g.set : Int)) := by omega
        have d6 : ¬ (g.set.length < cnt g.set) := by omega
        have d7 : decide (g.set.length < cnt g.set) = false := decide_eq_false d6
        have d8 : ((rl : Int) != (rl : Int)) = false := by simp
        have d9 : ((g.set.length : Int) != (g.set.length : Int)) = false := by simp
        go_wp2_with fail
        obtain ⟨I, Wf, hI, hW, hWs⟩ := worlds_of HX
        have x0 := fun i => (HCE.out _ _ _ _ _ _ (hW i) HQK.out).1
        have x1 := fun i => (HCE.out _ _ _ _ _ _ (hW i) HQK.out).2.1
        have x2 := fun i => (HCE.out _ _ _ _ _ _ (hW i) HQK.out).2.2.1
        have x3 := fun i => (HCE.out _ _ _ _ _ _ (hW i) HQK.out).2.2.2.1
        have x4 := fun i => (HCE.out _ _ _ _ _ _ (hW i) HQK.out).2.2.2.2
        dsimp only at x0 x1 x2 x3 x4
        (have x5 := fun i => (HCE.out _ _ _ _ _ _ (hW i) HQP.out).1)
        have CF := Lib.hid fun i => quietQ (C1.out (Wf i)) (hW i) hWs
        have CO := Lib.hid fun i => quietQ (C2.out (Wf i)) (hW i) hWs
        clear C1 C2 q0 q1 q2 q3 q4
        refine wp_region_holds hWs HX (by kernel_rfl) (by kernel_rfl) ?_
        try simp only [List.append_eq, List.cons_append, List.nil_append]
        (repeat (go_big_quiet_step ((first | (go_at_call 16; exact CF.out _) | (go_at_call 86; exact CO.out _))))); refine wpQuiet_nil ?_; intro _ hw'; obtain ⟨nq, hw''⟩ := hw'; subst hw''
        have H6 := hW nq
        clear x0 x1 x2 x3 x4 CF CO HX
        obtain ⟨q0, q1, q2, q3, q4⟩ := HCE.out _ _ _ _ _ _ H6 HQK.out
        dsimp only at q0 q1 q2 q3 q4
        obtain ⟨j0, j1⟩ := HB7.out _ _ H6
        go_wp2_with fail
        go_region
        have H7 := (HS7.out _ _ H6).drew
        clear H6 j0 j1 q0 q1 q2 q3 q4
        obtain ⟨q0, q1, q2, q3, q4⟩ := HCE.out _ _ _ _ _ _ H7 HQK.out
        dsimp only at q0 q1 q2 q3 q4
        have hrw0 : shMine (rowsOf (Ls.take k)) = shMine (rowsOf (Ls.take k) ++ g.row.take 0) := by rw [List.take_zero, List.append_nil]
        rw [hrw0] at H7
        have H8 := Lib.hid H7
        clear hrw0
        clear H7
        go_wp2_with fail
        go_loopw [11] (fun i wr => ∃ j, j ≤ rl ∧ i = .int .i64 (j : Nat) ∧ Holds e wr (pts b7 (shObj (Ls.take (k + 1))) :: pts (b7 + 1) (shMine (rowsOf (Ls.take k) ++ g.row.take j)) :: row (.slice (some ⟨g0, o0, none⟩) Ls.length sc) 45 5 Ls.length (Q.flatMap shCells) :: all shRow Q :: poolH pb tb rb S :: ramH rb M :: oH (.slice la L.length lc) L :: R)) (fun i _ => rl - (intOf i).toNat)
        case atStart => exact ⟨0, by omega, rfl, H8.out⟩
        case round =>
          obtain ⟨j, hj, rfl, HY⟩ := hrel
          clear H8 q0 q1 q2 q3 q4
          obtain ⟨q0, q1, q2, q3, q4⟩ := HCE.out _ _ _ _ _ _ HY HQK.out
          dsimp only at q0 q1 q2 q3 q4
          clear q0 q1 q2 q3
          by_cases hjl : j < rl
          · have hji : (j : Int) < (rl : Int) := by omega
            obtain ⟨n, hn⟩ : ∃ n, g.row[j]? = some n := ⟨_, List.getElem?_eq_getElem (by omega)⟩
            obtain ⟨hn96, hown⟩ := HF.out.own n (List.mem_of_getElem? hn)
            obtain ⟨g1, o1, hra, hel⟩ := (HRW.out _ _ _ _ _ HY).at (by omega)
            subst hra
            have r0 := hel j (.int .i64 (n : Int)) (by rw [ints_getS (x := (n : Int)) (by unfold nats; rw [List.getElem?_map, hn]; rfl)])
            have HNI : Hid (n ∉ rowsOf (Ls.take k) ++ g.row.take j) := Lib.hid (by
              have h1 := HNX.out
              have h2 : g.row = g.row.take j ++ n :: g.row.drop (j + 1) := (split_at hn).1
              rw [h2, ← List.append_assoc] at h1
              have h3 := (List.nodup_append.1 h1).2.2
              intro hm
              exact h3 n hm n (by simp) rfl)
            have m0 := HY.swap.cells n
            have m1 : ((bools (mineL (rowsOf (Ls.take k) ++ g.row.take j))).toArray)[n]? = some (.bool false) := boolsA_get (by rw [mineL_get _ hn96, decide_eq_false HNI.out])
            rw [m1] at m0
            have HRJ : Hid (rowsOf (Ls.take k) ++ g.row.take (j + 1) = rowsOf (Ls.take k) ++ g.row.take j ++ [n]) := Lib.hid (by rw [List.take_add_one, hn, List.append_assoc]; rfl)
            have HS8 : Hid (∀ w', Holds e w' (pts b7 (shObj (Ls.take (k + 1))) :: pts (b7 + 1) (shMine (rowsOf (Ls.take k) ++ g.row.take j)) :: row (.slice (some ⟨g0, o0, none⟩) Ls.length sc) 45 5 Ls.length (Q.flatMap shCells) :: all shRow Q :: poolH pb tb rb S :: ramH rb M :: oH (.slice la L.length lc) L :: R) → w'.cell? ⟨b7 + 1, n, none⟩ = some (.bool false) ∧ w'.frozen? ⟨b7 + 1, n, none⟩ = false ∧ Holds e (w'.setCell ⟨b7 + 1, n, none⟩ (.bool true)) (pts b7 (shObj (Ls.take (k + 1))) :: pts (b7 + 1) (shMine (rowsOf (Ls.take k) ++ g.row.take (j + 1))) :: row (.slice (some ⟨g0, o0, none⟩) Ls.length sc) 45 5 Ls.length (Q.flatMap shCells) :: all shRow Q :: poolH pb tb rb S :: ramH rb M :: oH (.slice la L.length lc) L :: R)) := Lib.hid fun w' h => by
              refine ⟨(h.swap.cells n).trans m1, h.swap.frozen n, ?_⟩
              have h1 := h.swap.set n (.bool true)
              rw [bools_set, ← mineL_snoc _ _ hn96, ← HRJ.out] at h1
              exact h1.swap
            have hnn0 : decide ((n : Int) < 0) = false := decide_eq_false (by omega)
            have hnn1 : decide ((95 : Int) < (n : Int)) = false := decide_eq_false (by omega)
            have hnn2 : decide (95 < n) = false := decide_eq_false (by omega)
            have hnn3 : (n : Int) < 96 := by omega
            have HOW : Hid (∀ w', Holds e w' (pts b7 (shObj (Ls.take (k + 1))) :: pts (b7 + 1) (shMine (rowsOf (Ls.take k) ++ g.row.take j)) :: row (.slice (some ⟨g0, o0, none⟩) Ls.length sc) 45 5 Ls.length (Q.flatMap shCells) :: all shRow Q :: poolH pb tb rb S :: ramH rb M :: oH (.slice la L.length lc) L :: R) → ∃ f, w'.cell? ⟨rb, 0, none⟩ = some (.pointer (some ⟨f, 0, none⟩)) ∧ Calls Tryz.prog 95 #[.pointer (some ⟨f, 0, none⟩), .int .i64 n] w' (Quiet w' (.int .i64 3))) := Lib.hid fun w' h => by
              obtain ⟨f, X, h1, h2, _⟩ := ram_fr h.p5
              have h3 := frOwner h2 (n : Int)
              rw [hown] at h3
              exact ⟨f, h1, h3⟩
            clear hel hn m1 hown
            go_wp2_with fail
            refine (HRA.out _ _ _ _ _ _ HY).mono ?_
            rintro en w5 ⟨rfl, HZ⟩
            obtain ⟨f, hf, hcO⟩ := HOW.out _ HZ
            have HCO := Lib.hid (retQ hcO HZ)
            clear HY hcO HOW
            go_wp2_with fail
            refine HCO.out.mono ?_
            rintro en w6 ⟨rfl, HY⟩
            obtain ⟨j3, j2, H9⟩ := HS8.out _ HY
            have H9 := Lib.hid H9
            clear HCO hf HZ HS8 HY
            go_wp2_with fail
            go_roundw
            case rel => exact ⟨j + 1, by omega, by go_num, H9.out⟩
            case measure => simp [intOf]; omega
          · have hji : ¬ (j : Int) < (rl : Int) := by omega
            obtain rfl : j = rl := by omega
            have HY2 : Holds e wr (pts b7 (shObj (Ls.take (k + 1))) :: pts (b7 + 1) (shMine (rowsOf (Ls.take (k + 1)))) :: row (.slice (some ⟨g0, o0, none⟩) Ls.length sc) 45 5 Ls.length (Q.flatMap shCells) :: all shRow Q :: poolH pb tb rb S :: ramH rb M :: oH (.slice la L.length lc) L :: R) := by
              rw [HRO.out]
              rw [show g.row.take j = g.row from List.take_of_length_le (by omega)] at HY
              exact HY
            have HY2 := Lib.hid HY2
            clear HY
            go_wp2_with fail
            go_roundw
            case rel => exact ⟨k + 1, by omega, by go_num, by rw [HFO.out]; go_num, HY2.out⟩
            case measure => simp [intOf]; omega
    · have hki : ¬ (k : Int) < Ls.length := by omega
      obtain rfl : k = Ls.length := by omega
      rw [List.take_length] at HX
      rw [List.take_length]
      have HX1 : Holds e wr (pts b7 (shObj Ls) :: poolH pb tb rb S :: ramH rb M :: oH (.slice la L.length lc) L :: R) := HX.d1.d1.d1
      have hP := hP'.out
      have hK := HK.out
      have hL6 : L.length ≤ 1000000 := by have := hK.len512; omega
      have hLB := fun q hq => (hK.lens (q := q) hq)
      have HCO : Hid (∀ (w' : World) (c : Nat) (A0 A1 A2 : HP), Holds e w' (A0 :: A1 :: A2 :: oH (.slice la L.length lc) L :: R) → Calls Tryz.prog 96 #[.slice la L.length lc, .int .i64 c] w' (Ret e (.int .i64 (objectsO L c)) (A0 :: A1 :: A2 :: oH (.slice la L.length lc) L :: R))) := Lib.hid fun w' c A0 A1 A2 h => (r20Objects L (.slice la L.length lc) c hL6 (fun q hq => ⟨(hLB q hq).1, (hLB q hq).2.1⟩) h.p3).mono fun en w'' ⟨r1, r2⟩ => ⟨r1, r2.q3⟩
      have HPO : Hid (∀ (w' : World) (c : Int) (A0 : HP) Y, Holds e w' (A0 :: poolH pb tb rb S :: Y) → Calls Tryz.prog 25 #[.pointer (some ⟨pb, 0, none⟩), .int .i64 c] w' (Ret e (.int .i64 (objectsOf Ls c)) (A0 :: poolH pb tb rb S :: Y))) := Lib.hid fun w' c A0 Y h => by
        have hl := hP.len
        have h1 := poObjects h.swap (by omega) hP.rows hP.sets c
        rw [HLS.out] at h1
        exact h1.mono fun en w'' ⟨r1, r2⟩ => ⟨r1, r2.swap⟩
      have HEQ : Hid (∀ c : Nat, objectsOf Ls (c : Int) = objectsO L c) := Lib.hid fun c => by rw [← HLS.out]; exact hK.objects c
      have HN1 : Hid (objectsOf Ls (-1) = 0 ∧ objectsOf Ls 64 = 0) := Lib.hid ⟨objectsOf_none fun p hp => by omega, objectsOf_none fun p hp => by have := (HSF.out p hp).1.cls; omega⟩
      have HFS : Hid (framesOf Ls = M.fr.count [3]) := Lib.hid (by rw [← HLS.out, framesOf_fsum, ← hP.pgs.frames])
      have HFA : Hid (∀ (w' : World) (A0 : HP) (Y : List HP), Holds e w' (A0 :: poolH pb tb rb S :: Y) → Calls Tryz.prog 24 #[.pointer (some ⟨pb, 0, none⟩)] w' (Ret e (.int .i64 (M.fr.count [3])) (A0 :: poolH pb tb rb S :: Y))) := Lib.hid fun w' A0 Y h => (framesAny hP h.swap).mono fun en w'' ⟨r1, r2⟩ => ⟨r1, r2.swap⟩
      have HRA := Lib.hid fun (w' : World) (A0 : HP) (Y : List HP) (h : Holds e w' (A0 :: poolH pb tb rb S :: Y)) => retQ (poRAM h.swap) h
      have hC3 : M.fr.count [3] ≤ 96 := Nat.le_trans (List.length_filter_le _ _) hP.pgs.fr.n96
      clear HX hP hK hLB hL6 HSF HAS HND HQ HQL hP' HK
      rw [HFS.out]
      obtain ⟨c3, hc3⟩ : ∃ c3, M.fr.count [3] = c3 := ⟨_, rfl⟩
      rw [hc3] at HFA hC3 ⊢
      have HC3 := Lib.hid hc3
      clear hc3 HFS
      go_wp2_with fail
      go_loopw [13] (fun i wr => ∃ c : Nat, c ≤ 64 ∧ i = .int .i64 (c : Nat) ∧ Holds e wr (pts b7 (shObj Ls) :: poolH pb tb rb S :: ramH rb M :: oH (.slice la L.length lc) L :: R)) (fun i _ => 64 - (intOf i).toNat)
      case atStart => exact ⟨0, by omega, rfl, HX1⟩
      case round =>
        obtain ⟨c, hc, rfl, HY⟩ := hrel
        clear HX1
        by_cases hc64 : c < 64
        · have hci : (c : Int) < 64 := by omega
          obtain ⟨z, hz⟩ : ∃ z, objectsOf Ls (c : Int) = z := ⟨_, rfl⟩
          have hz2 : objectsO L c = z := by rw [← HEQ.out, hz]
          obtain ⟨I, Wf, hI, hW, hWs⟩ := worlds_of HY
          have x7 : ∀ i, (Wf i).cell? ⟨b7, c, none⟩ = some (.int .i64 (z : Int)) := fun i => by rw [(hW i).cells]; exact intsA_getS (by rw [objsL_get _ hc64, hz])
          have CO := Lib.hid fun i => quietH (A := pts b7 (shObj Ls) :: poolH pb tb rb S :: ramH rb M :: oH (.slice la L.length lc) L :: R) (hz2 ▸ HCO.out (Wf i) c _ _ _ (hW i)) hWs
          have CP := Lib.hid fun i => quietH (A := pts b7 (shObj Ls) :: poolH pb tb rb S :: ramH rb M :: oH (.slice la L.length lc) L :: R) (hz ▸ HPO.out (Wf i) (c : Int) _ _ (hW i)) hWs
          have d1 : ((z : Int) != (z : Int)) = false := by simp
          clear hz hz2
          go_wp2_with fail
          refine wp_region_holds hWs HY (by kernel_rfl) (by kernel_rfl) ?_
          try simp only [List.append_eq, List.cons_append, List.nil_append]
          (repeat (go_big_quiet_step ((first | (go_at_call 96; exact CO.out _) | (go_at_call 25; exact CP.out _))))); refine wpQuiet_nil ?_; intro _ hw'; obtain ⟨nq, hw''⟩ := hw'; subst hw''
          have HZ := hW nq
          clear x7 CO CP HY hW hWs
          go_wp2_with fail
          go_roundw
          case rel => exact ⟨c + 1, by omega, by go_num, HZ⟩
          case measure => simp [intOf]; omega
        · have hci : ¬ (c : Int) < 64 := by omega
          obtain ⟨hn1, hn2⟩ := HN1.out
          have C1 := Lib.hid fun (w' : World) h => hn1 ▸ HPO.out w' (-1) (pts b7 (shObj Ls)) (ramH rb M :: oH (.slice la L.length lc) L :: R) h
          have C2 := Lib.hid fun (w' : World) h => hn2 ▸ HPO.out w' 64 (pts b7 (shObj Ls)) (ramH rb M :: oH (.slice la L.length lc) L :: R) h
          clear HPO HCO HEQ HN1 hn1 hn2
          go_wp2_with fail
          refine (HFA.out _ _ _ HY).mono ?_
          rintro en w5 ⟨rfl, H2⟩
          clear HY HFA
          go_wp2_with fail
          refine (HRA.out _ _ _ H2).mono ?_
          rintro en w6 ⟨rfl, H3⟩
          obtain ⟨f, X, hf, HF, hback⟩ := ram_fr H3.p2
          have HB := Lib.hid hback
          have CC := Lib.hid (ramCount ((HF.alloc (.cells #[.int .i64 3] 3)).drop) 3 (.slice (some ⟨w6.heap.size, 0, none⟩) 1 1) (fun n => Reads.drewN (reads_lit1 w6 (.int .i64 3) 3)))
          rw [HC3.out] at CC
          clear H2 H3 HF hback HRA
          go_wp2_with fail
          refine CC.out.mono ?_
          rintro en w7 ⟨rfl, H4⟩
          have H5 := (HB.out _ H4).q2
          clear CC H4 HB hf
          go_wp2_with fail
          refine (C1.out _ H5).mono ?_
          rintro en w8 ⟨rfl, H6⟩
          clear C1 H5
          go_wp2_with fail
          refine (C2.out _ H6).mono ?_
          rintro en w9 ⟨rfl, H7⟩
          clear C2 H6
          go_wp2_with fail
          go_ret
          exact ⟨rfl, H7.drop⟩
end
end Go.Proofs.YtheblkofemobdaaGreat

/-
  gunnylaw20: Whole.
-/
namespace Go.Proofs.YtheblkofemobdaaGreat
open Go.RowKit

theorem convB {w : World} {a : Option Addr} {c : Nat} {l : List UInt8} (h : RdB w (.slice a l.length c) l) (hl : 0 < l.length) : (convert 36 9 (.slice a l.length c)).run Tryz.prog w = .ok (.string ⟨l.toArray⟩) w := by
  obtain ⟨g, o, rfl, hc⟩ := Reads.at h (by omega)
  refine run_convert_bytes_back (P := Tryz.prog) _ _ _ 5 ⟨g, o, none⟩ _ l (by kernel_rfl) (by kernel_rfl) (by kernel_rfl) ?_
  intro j hj
  rw [Addr.add_at]
  refine hc j _ ?_
  simp [u8v, hj]
section
variable {e : Env} {w : World} {R : List HP} {pb tb rb : Nat} {S : PoolS} {M : RamS}
theorem Keep.read (hP : PoolOk M S) (x : Int) : Keep M (readM M S x) := (read_law x hP).2.2.1
def wholePost (pb tb rb : Nat) (M : RamS) (S : PoolS) (vl : Value) (L : List OE) (R : List HP) (M' : RamS) : List HP := pur (Kept M' S L ∧ Keep M M') :: poolH pb tb rb S :: ramH rb M' :: oH vl L :: R
set_option maxRecDepth 100000 in
set_option maxHeartbeats 4000000 in
theorem whole20 {vl : Value} {L : List OE} (hK : Kept M S L) (H : Holds e w (poolH pb tb rb S :: ramH rb M :: oH vl L :: R)) :
    Calls Tryz.prog 31 #[.pointer (some ⟨pb, 0, none⟩), vl] w (RetEx e (fun _ : RamS => .bool true) (wholePost pb tb rb M S vl L R)) := by
  obtain ⟨la, lc, rfl⟩ := o_shape H.p2
  have hL512 := hK.len512
  have CRA := Lib.hid (retQ (poRAM H) H)
  have CLN : Hid (∀ w' Y, Holds e w' (poolH pb tb rb S :: Y) → Calls Tryz.prog 22 #[.pointer (some ⟨pb, 0, none⟩)] w' (Ret e (.int .i64 L.length) (poolH pb tb rb S :: Y))) := Lib.hid fun w' Y h => by
    have := retQ (poLen h) h
    rw [hK.many] at this
    exact this
  have CBY : Hid (∀ w' Y, Holds e w' (poolH pb tb rb S :: Y) → Calls Tryz.prog 23 #[.pointer (some ⟨pb, 0, none⟩)] w' (Ret e (.int .i64 (bytesO L : Nat)) (poolH pb tb rb S :: Y))) := Lib.hid fun w' Y h => by
    have := poBytes h (fun x hx => by
      obtain ⟨n, ob, ln, g, V, _⟩ := hK.ok.at hx
      have h2 := V.l2
      rw [V.eq]
      dsimp only
      omega)
    rw [hK.bytes] at this
    exact this
  have CRB := Lib.hid fun (w' : World) (Y : List HP) (h : Holds e w' (oH (.slice la L.length lc) L :: Y)) => r20Bytes L (.slice la L.length lc) (by omega) (fun q hq => (hK.lens hq).2.1) h
  have hll : ((L.length : Int) != (L.length : Int)) = false := by simp
  have hbb : (((bytesO L : Nat) : Int) != ((bytesO L : Nat) : Int)) = false := by simp
  have HK := Lib.hid hK
  clear hK H
  generalize bytesO L = nb at *
  go_enter Tryz.func31, Tryz.ntmps31
  go_wp2_with fail
  refine CRA.out.mono ?_
  rintro en w1 ⟨rfl, H1⟩
  clear CRA
  go_wp2_with fail
  refine (CLN.out _ _ H1).mono ?_
  rintro en w2 ⟨rfl, H2⟩
  clear H1 CLN
  go_wp2_with fail
  refine (CBY.out _ _ H2).mono ?_
  rintro en w3 ⟨rfl, H3⟩
  clear H2 CBY
  go_wp2_with fail
  refine (CRB.out _ _ H3.p2).mono ?_
  rintro en w4 ⟨rfl, H4⟩
  have H5 := H4.q2
  clear H3 CRB H4
  go_wp2_with fail
  go_loopw [6] (fun i wr => ∃ (k : Nat) (M' : RamS), k ≤ L.length ∧ i = .int .i64 (k : Nat) ∧ Hid (Kept M' S L ∧ Keep M M') ∧ Holds e wr (poolH pb tb rb S :: ramH rb M' :: oH (.slice la L.length lc) L :: R)) (fun i _ => L.length - (intOf i).toNat)
  case atStart => exact ⟨0, M, by omega, rfl, Lib.hid ⟨HK.out, Keep.refl M⟩, H5⟩
  case round =>
    obtain ⟨k, M', hk, rfl, HKK, HX⟩ := hrel
    clear H5 HK
    obtain ⟨hK, hKp⟩ := HKK.out
    by_cases hlt : k < L.length
    · have hki : (k : Int) < L.length := by omega
      obtain ⟨Q, hQ, h2⟩ := o_open HX.p2
      have hql : Q.length = L.length := by rw [← hQ, List.length_map]
      rw [hql] at h2
      obtain ⟨q, hq⟩ : ∃ q, Q[k]? = some q := ⟨_, List.getElem?_eq_getElem (by omega)⟩
      have hLk : q.1 ∈ L := by rw [← hQ]; exact List.mem_map.2 ⟨q, List.mem_of_getElem? hq, rfl⟩
      obtain ⟨hin, hgot, _⟩ := hK.at hLk
      obtain ⟨l1, l2, l3⟩ := hK.lens hLk
      obtain ⟨g, o, hla, _⟩ := (row.reads h2).at (by omega)
      subst hla
      have HY : Holds e wr (poolH pb tb rb S :: ramH rb M' :: row (.slice (some ⟨g, o, none⟩) L.length lc) 64 2 L.length (Q.flatMap oCells) :: all oRow Q :: R) := h2.p2.cons (Take.there _ (Take.there _ (Take.here _ _)))
      have hRW : Hid (∀ w' Y Z, Holds e w' (Y :: row (.slice (some ⟨g, o, none⟩) L.length lc) 64 2 L.length (Q.flatMap oCells) :: all oRow Q :: Z) → w'.cell? ⟨g, o + k * 2, none⟩ = some (.int .i64 q.1.1) ∧ w'.cell? ⟨g, o + k * 2 + 1, none⟩ = some q.2 ∧ RdB w' q.2 q.1.2) := Lib.hid fun w' Y Z h => ⟨rowf_cell oCells 2 oCells_len (row.reads h.swap) hq (j := 0) rfl, rowf_cell oCells 2 oCells_len (row.reads h.swap) hq (j := 1) rfl, bts.reads (Holds.focus (f := oRow) hq h.p2)⟩
      obtain ⟨ba, bc, hqv⟩ := (hRW.out _ _ _ HY.drop).2.2.shape
      obtain ⟨r0, r1, _⟩ := hRW.out _ _ _ HY.drop
      obtain ⟨⟨hx, d⟩, qv⟩ := q
      dsimp only at *
      subst hqv
      have CRD := Lib.hid (poRead HY hK.ok hx hgot)
      have hKr := hK.read hx
      have hKpr := hKp.trans (Keep.read hK.ok hx)
      obtain ⟨n, ob, ln, g9, V, -⟩ := hK.ok.at hin
      have hget : S.tab.get hx = (⟨(n : Nat), (ob : Nat), (d.length : Nat)⟩, true) := by
        unfold TabS.get
        rw [if_pos hin]
        rw [V.eq] at l3 ⊢
        dsimp only at l3
        rw [l3]
      have CWH : Hid (∀ w' Y, Holds e w' (poolH pb tb rb S :: Y) → Calls Tryz.prog 19 #[.pointer (some ⟨pb, 0, none⟩), .int .i64 hx] w' (Ret e (.tuple #[.agg #[.int .i64 n, .int .i64 ob, .int .i64 d.length], .bool true]) (poolH pb tb rb S :: Y))) := Lib.hid fun w' Y h => by
        have h1 := poWhere h hx
        rw [hget] at h1
        exact h1
      have HKR : Hid (Kept (readM M' S hx) S L ∧ Keep M (readM M' S hx)) := Lib.hid ⟨hKr, hKpr⟩
      have HOC : Hid (∀ w' Y, Holds e w' (row (.slice (some ⟨g, o, none⟩) L.length lc) 64 2 L.length (Q.flatMap oCells) :: all oRow Q :: Y) → Holds e w' (oH (.slice (some ⟨g, o, none⟩) L.length lc) L :: Y)) := Lib.hid fun w' Y h => o_close hQ (by rw [hql]; exact h)
      have d8 : ((d.length : Int) != (d.length : Int)) = false := by simp
      clear hK hKp hKr hKpr hin hgot V hget hLk hql hQ h2 HX HKK l3
      generalize readM M' S hx = M2 at *
      go_wp2_with fail
      refine CRD.out.mono ?_
      rintro en w5 ⟨v, rfl, H6⟩
      obtain ⟨va, vc, rfl⟩ := (bts.reads H6).shape
      obtain ⟨r0, r1, _⟩ := hRW.out _ _ _ H6.drop.drop
      clear CRD HY
      go_wp2_with fail
      refine (CWH.out _ _ H6.swap).mono ?_
      rintro en w6 ⟨rfl, H7⟩
      have H8 := H7.alloc (.cells #[.int .i64 n, .int .i64 ob, .int .i64 d.length] 51)
      obtain ⟨bx, hbx⟩ : ∃ bx, w6.heap.size = bx := ⟨_, rfl⟩
      rw [hbx] at H8
      clear H6 H7 CWH r0 r1
      go_wp2_with fail
      refine code_at H8 fun w7 H8 => ?_
      obtain ⟨I, Wf, hI, hW, hWs⟩ := worlds_of H8
      have x0 := fun i => (hRW.out _ _ _ (hW i).drop.drop.drop).1
      have x1 := fun i => (hRW.out _ _ _ (hW i).drop.drop.drop).2.1
      have x2 := fun i => convB (bts.reads (hW i).drop.drop) l1
      have x3 := fun i => convB (hRW.out _ _ _ (hW i).drop.drop.drop).2.2 l1
      have x4 : ∀ i, (Wf i).cell? ⟨bx, 2, none⟩ = some (.int .i64 d.length) := fun i => (hW i).cells 2
      try dsimp only at x0 x1 x3
      refine wp_region_holds hWs H8 (by kernel_rfl) (by kernel_rfl) ?_
      try simp only [List.append_eq, List.cons_append, List.nil_append]
      (repeat (go_big_quiet_step (fail))); refine wpQuiet_nil ?_; intro _ hw'; obtain ⟨nq, hw''⟩ := hw'; subst hw''
      have H9 := hW nq
      clear x0 x1 x2 x3 x4 hbx H8
      have HA : Holds e (Wf nq) (poolH pb tb rb S :: ramH rb M2 :: oH (.slice (some ⟨g, o, none⟩) L.length lc) L :: R) := (HOC.out _ _ (H9.drop.d1.p2.cons (Take.there _ (Take.there _ (Take.here _ _))))).q2
      have HA := Lib.hid HA
      clear H9 hW hWs HOC hRW
      go_wp2_with fail
      go_roundw
      case rel => exact ⟨k + 1, M2, by omega, by go_num, HKR, HA.out⟩
      case measure => simp [intOf]; omega
    · have hki : ¬ (k : Int) < L.length := by omega
      have CSH := Lib.hid (sheets20 hK HX)
      clear hK hKp HX
      go_wp2_with fail
      refine CSH.out.mono ?_
      rintro en w5 ⟨rfl, H6⟩
      clear CSH
      go_wp2_with fail
      go_ret
      exact ⟨M', rfl, Holds.mkPur HKK.out H6⟩
end
end Go.Proofs.YtheblkofemobdaaGreat

/-
  gunnylaw20: PoolKeeps: frames of others; the parts of a round.
-/
namespace Go.Proofs.YtheblkofemobdaaGreat
open Go.RowKit

theorem takeO_own {M : RamS} {n : Nat} {o : Int} {L : List Nat} (hn : n < M.fr.owner.length) (k : Nat) : (M.take o L n).fr.own (k : Int) = if k = n then o else M.fr.own (k : Int) := by
  unfold RamS.take FrS.own
  rw [if_pos (Int.natCast_nonneg k), if_pos (Int.natCast_nonneg k), Int.toNat_natCast]
  exact getD_set hn
theorem takeO_frame {M : RamS} {n : Nat} {o : Int} {L : List Nat} (hn : n < M.mem.length) (k : Nat) : (M.take o L n).frame k = if k = n then zeros else M.frame k := by
  unfold RamS.take RamS.frame
  exact getD_set hn
/-- A frame taken by another owner. -/
theorem PoolOk.take {M : RamS} {S : PoolS} {L : List Nat} {n : Nat} {o : Int} (h : PoolOk M S) (hf : M.fr.free = L ++ [n]) (h1 : 1 ≤ o) (h3 : o < 3) : PoolOk (M.take o L n) S ∧ (∀ x, got (M.take o L n) S x = got M S x) := by
  have hn := (h.pgs.fr.mem n).1 (by rw [hf]; simp)
  have hn0 : M.fr.own (n : Int) = 0 := by rw [own_nat]; exact hn.2
  have hml : n < M.mem.length := by rw [h.pgs.ram.len]; exact hn.1
  have hne : ∀ (m : Nat) (g : PgS), S.pgs[m]? = some (some g) → ∀ r ∈ g.row, r ≠ n := fun m g hg r hr e => by
    obtain ⟨L', hI⟩ := h.pgs.pg m g hg
    have := hI.ok.own r hr
    rw [e, hn0] at this
    cases this
  have hfr : ∀ (m : Nat) (g : PgS), S.pgs[m]? = some (some g) → ∀ r ∈ g.row, (M.take o L n).frame r = M.frame r := fun m g hg r hr => by
    rw [takeO_frame hml, if_neg (hne m g hg r hr)]
  refine ⟨⟨⟨h.pgs.ram.take o L n, h.pgs.fr.take hf h1 (by omega), fun m g hg => ?_, h.pgs.apart, ?_⟩, h.tab, h.bks, h.pos, h.len⟩, fun x => ?_⟩
  · obtain ⟨L', hI⟩ := h.pgs.pg m g hg
    exact ⟨L', hI.congr (fun r hr => by rw [takeO_own hn.1, if_neg (hne m g hg r hr)]) fun r hr => hfr m g hg r hr⟩
  · have h2 := count_row (F := M.fr) (F' := (M.take o L n).fr) (row := [n]) (u := 0) (v := o) (by simp [RamS.take]) (by simp) (fun r hr => by simp at hr; subst hr; exact ⟨hn.1, hn0⟩) (fun j => by rw [takeO_own hn.1]; simp) [3]
    have h4 : o ∉ [(3 : Int)] := by simp; omega
    rw [if_neg h4] at h2
    simp at h2
    rw [h2, h.pgs.frames]
  · exact got_keep (bks := S.bks) h.tab (fun m ob ln q h' b1 b2 V => ⟨q, V.pg, obj_congr (hfr m q V.pg) ob ln⟩) x
theorem Kept.take {M : RamS} {S : PoolS} {Lo : List OE} {L : List Nat} {n : Nat} {o : Int} (h : Kept M S Lo) (hf : M.fr.free = L ++ [n]) (h1 : 1 ≤ o) (h3 : o < 3) : Kept (M.take o L n) S Lo := by
  obtain ⟨h4, h5⟩ := h.ok.take hf h1 h3
  exact ⟨h4, fun x d => by rw [h5]; exact h.look x d, h.nd⟩
theorem kept_nil {M : RamS} {S : PoolS} (h : Kept M S []) : sheetsOf S.pgs 0 = [] ∧ M.fr.count [3] = 0 := by
  have h1 : sheetsOf S.pgs 0 = [] := by
    apply Classical.byContradiction
    intro hne
    obtain ⟨p, hp⟩ := List.exists_mem_of_ne_nil _ hne
    obtain ⟨h2, _⟩ := h.ok.sheet hp
    have h3 := wsum_set (fun _ => 1) (y := none) h2
    have h4 := h.ok.tab.sum fun _ => 1
    have h5 := h.ok.tab.many
    have h6 := h.many
    have h7 := h.ok.pos _ _ h2
    unfold pgUse at h3
    simp at h3 h4 h6
    omega
  exact ⟨h1, by rw [h.ok.pgs.frames, ← framesOf_fsum S.pgs 0, h1]; rfl⟩
section
variable {e : Env} {w : World} {R : List HP} {pb tb rb : Nat} {S : PoolS} {M : RamS}
/-- RAM.Take by another owner, whatever it answers. -/
theorem takeAny {Lo : List OE} (hK : Kept M S Lo) (H : Holds e w (ramH rb M :: R)) :
    Calls Tryz.prog 27 #[.pointer (some ⟨rb, 0, none⟩), .int .i64 1] w (RetEx e (fun p : RamS × Int × Bool => .tuple #[.int .i64 p.2.1, .bool p.2.2]) (fun p => pur (Kept p.1 S Lo) :: ramH rb p.1 :: R)) := by
  by_cases hf : M.fr.free = []
  · exact (ramTake_no H 1 (.inl hf)).mono fun en w' ⟨r1, r2⟩ => ⟨(M, 0, false), r1, Holds.mkPur hK r2⟩
  · have h1 := last_split (l := M.fr.free) (List.length_pos_iff.2 hf)
    exact (ramTake_yes H 1 h1 (by omega) (by omega)).mono fun en w' ⟨r1, r2⟩ => ⟨(M.take 1 M.fr.free.dropLast (M.fr.free.getLastD 0), ((M.fr.free.getLastD 0 : Nat) : Int), true), r1, Holds.mkPur (hK.take h1 (by omega) (by omega)) r2⟩
/-- Drop of the list and Free of the pool, one behind the other. -/
theorem free_list {L : List OE} (hK : Kept M S L) (x : Int) :
    (S.tab.inb x = false ∧ atO L x = -1 ∧ S.free1 M x = (false, M, S)) ∨ ∃ (k : Nat) (q : RamS × PoolS), k < L.length ∧ atO L x = (k : Int) ∧ S.free1 M x = (true, q) ∧ Kept q.1 q.2 (L.eraseIdx k) ∧ Keep M q.1 := by
  cases hx : S.tab.inb x with
  | false => exact .inl ⟨rfl, hK.no hx, free_no hx⟩
  | true =>
    obtain ⟨n, ob, ln, g, V, e0, F⟩ := free_law hK.ok hx
    obtain ⟨k, hk, ha, hK2⟩ := hK.drop hx F
    rw [e0] at hK2 F
    exact .inr ⟨k, _, hk, ha, e0, hK2, F.keep⟩
theorem kept_last {L : List OE} {j : Nat} {q0 : OE} (hK : Kept M S (L.take (j + 1))) (hq : L[j]? = some q0) : ∃ q, S.free1 M q0.1 = (true, q) ∧ Kept q.1 q.2 (L.take j) := by
  have hjl := (List.getElem?_eq_some_iff.1 hq).1
  have hq2 : (L.take (j + 1))[j]? = some q0 := by rw [List.getElem?_take, if_pos (by omega), hq]
  have hin : S.tab.inb q0.1 = true := (hK.at (List.mem_of_getElem? hq2)).1
  rcases free_list hK q0.1 with ⟨h1, _⟩ | ⟨k, q, hk, ha, he, hK2, _⟩
  · rw [hin] at h1; cases h1
  · refine ⟨q, he, ?_⟩
    rcases atO_cases (L.take (j + 1)) q0.1 with ⟨h1, _⟩ | ⟨k', q', hk', h2, h3⟩
    · rw [ha] at h1; omega
    · have : k' = k := by rw [ha] at h2; omega
      subst this
      have hkj := nodup_at hK.nd hk' hq2 h3
      subst hkj
      have e : (L.take (k' + 1)).eraseIdx k' = L.take k' := by
        rw [(split_at hq2).2, List.take_take, Nat.min_eq_left (by omega), List.drop_of_length_le (by rw [List.length_take]; omega), List.append_nil]
      rw [e] at hK2
      exact hK2
end
end Go.Proofs.YtheblkofemobdaaGreat

/-
  Package group: the worst; package handle: the handles of a page.
-/
namespace Go.Proofs.YtheblkofemobdaaGreat
open Go.RowKit

theorem ofG_zero {u m : Nat} (h : ofG u m ≠ 4) : ofG u m = 0 ↔ u = 0 := by
  have h1 : ¬ (m ≤ u) := fun x => h (ofG_full.2 x)
  unfold ofG
  rw [if_neg (by omega)]
  by_cases h2 : u < 1
  · rw [if_pos h2]; omega
  · rw [if_neg h2]
    constructor
    · intro h3
      split at h3
      · cases h3
      · split at h3 <;> cases h3
    · intro h3; omega
def usB (B : Bk) (n : Nat) : Nat := match B n with | some p => p.1 | none => 0
/-- A number whose zspage has an object and room. -/
def midB (B : Bk) (n : Nat) : Prop := ∃ p, B n = some p ∧ 0 < p.1 ∧ p.1 < p.2
def worse (B : Bk) (acc : Option Nat) (n : Nat) : Option Nat :=
  match B n with
  | some p => if 0 < p.1 ∧ p.1 < p.2 then (match acc with | none => some n | some a => if p.1 ≤ usB B a then some n else some a) else acc
  | none => acc
def worstL (B : Bk) (l : List Nat) : Option Nat := l.foldl (worse B) none
theorem worstL_snoc (B : Bk) (l : List Nat) (n : Nat) : worstL B (l ++ [n]) = worse B (worstL B l) n := by simp [worstL]
theorem worstL_mid (B : Bk) (l : List Nat) : (∀ a, worstL B l = some a → a ∈ l ∧ midB B a) ∧ (worstL B l = none → ∀ n ∈ l, ¬ midB B n) := by
  suffices h : ∀ (r : List Nat), (∀ a, worstL B r.reverse = some a → a ∈ r.reverse ∧ midB B a) ∧ (worstL B r.reverse = none → ∀ n ∈ r.reverse, ¬ midB B n) by
    have := h l.reverse
    rwa [List.reverse_reverse] at this
  intro r
  induction r with
  | nil => exact ⟨fun a h => (by cases h), fun _ n hn => by simp at hn⟩
  | cons n r ih =>
    rw [List.reverse_cons, worstL_snoc]
    obtain ⟨i1, i2⟩ := ih
    generalize worstL B r.reverse = acc at i1 i2
    unfold worse
    constructor
    · intro a h
      cases hB : B n with
      | none =>
        rw [hB] at h
        obtain ⟨x, y⟩ := i1 a h
        exact ⟨by simp at x ⊢; exact .inl x, y⟩
      | some p =>
        rw [hB] at h
        dsimp only at h
        by_cases hp : 0 < p.1 ∧ p.1 < p.2
        · rw [if_pos hp] at h
          cases acc with
          | none => cases h; exact ⟨by simp, p, hB, hp⟩
          | some b =>
            dsimp only at h
            split at h
            · cases h; exact ⟨by simp, p, hB, hp⟩
            · cases h
              obtain ⟨x, y⟩ := i1 _ rfl
              exact ⟨by simp at x ⊢; exact .inl x, y⟩
        · rw [if_neg hp] at h
          obtain ⟨x, y⟩ := i1 a h
          exact ⟨by simp at x ⊢; exact .inl x, y⟩
    · intro h x hx
      cases hB : B n with
      | none =>
        rw [hB] at h
        have h' := i2 h
        rcases List.mem_append.1 hx with h1 | h1
        · exact h' x h1
        · obtain rfl := List.mem_singleton.1 h1
          rintro ⟨p, hp, _⟩
          rw [hB] at hp; cases hp
      | some p =>
        rw [hB] at h
        dsimp only at h
        by_cases hp : 0 < p.1 ∧ p.1 < p.2
        · rw [if_pos hp] at h
          cases acc with
          | none => cases h
          | some b => dsimp only at h; split at h <;> cases h
        · rw [if_neg hp] at h
          have h' := i2 h
          rcases List.mem_append.1 hx with h1 | h1
          · exact h' x h1
          · obtain rfl := List.mem_singleton.1 h1
            rintro ⟨p', hp', hq⟩
            rw [hB] at hp'; cases hp'
            exact hp hq
def worstB (B : Bk) : Option Nat := worstL B (bnums B [])

section
variable {e : Env} {w : World} {R : List HP} {b : Nat} {B : Bk}
set_option maxRecDepth 100000 in
set_option maxHeartbeats 1000000 in
theorem gWorst (H : Holds e w (grpB b B :: R)) (hB : BkOk B) :
    Calls Tryz.prog 120 #[.pointer (some ⟨b, 0, none⟩)] w
      (Ret e (.tuple #[.int .i64 (((worstB B).getD 0 : Nat) : Int), .bool (worstB B).isSome]) (grpB b B :: R)) := by
  have CN := Lib.hid (gNumbers (vb := .slice none 0 0) (bs := []) (row.nil 3 1 H).swap (by simp))
  have hz : ∀ w, (zeroValue 132).run Tryz.prog w = .ok (.agg #[.int .i64 0, .int .i64 0]) w := fun w => by kernel_rfl
  clear H
  obtain ⟨L, hL⟩ : ∃ L, bnums B [] = L := ⟨_, rfl⟩
  have hmem : ∀ n ∈ L, n < 4096 ∧ ∃ p, B n = some p := fun n hn => by
    rw [← hL] at hn
    simp only [bnums, List.mem_filter, List.mem_range, Bool.and_eq_true] at hn
    exact ⟨hn.1, Option.isSome_iff_exists.1 hn.2.1⟩
  have hlen : L.length ≤ 4096 := by rw [← hL, ← nums_b]; exact nums_length _ _ _
  have HBE : Hid (worstB B = worstL B L) := Lib.hid (by rw [worstB, hL])
  rw [hL] at CN
  clear hL
  go_enter Tryz.func120, Tryz.ntmps120
  go_wp2_with fail
  refine CN.out.mono ?_
  rintro en w1 ⟨v, rfl, H1⟩
  obtain ⟨av, cv, rfl⟩ := row_shape H1
  clear CN
  go_wp2_with fail
  go_loopw [4, 5, 13] (fun x y i wr => ∃ k, k ≤ L.length ∧ i = .int .i64 (k : Nat) ∧ x = .int .i64 (((worstL B (L.take k)).getD 0 : Nat) : Int) ∧ y = .bool (worstL B (L.take k)).isSome ∧ Holds e wr (row (.slice av L.length cv) 3 1 L.length (ints (nats L)) :: grpB b B :: row (.slice none 0 0) 3 1 ([] : List Int).length (ints []) :: R)) (fun _ _ i _ => L.length - (intOf i).toNat)
  case atStart => exact ⟨0, by omega, rfl, rfl, rfl, H1⟩
  case round =>
    obtain ⟨k, hk, rfl, rfl, rfl, HX⟩ := hrel
    by_cases hlt : k < L.length
    · obtain ⟨n, hn⟩ : ∃ n, L.getD k 0 = n := ⟨_, rfl⟩
      obtain ⟨hn4, ⟨u, m⟩, hnB⟩ := hmem n (hn ▸ getD_mem hlt)
      have hle := hB.le n _ hnB
      dsimp only at hle
      have hgn : L[k]? = some n := by rw [get_getD (d := 0) hlt, hn]
      have HTK : Hid (worstL B (L.take (k + 1)) = worse B (worstL B (L.take k)) n) := Lib.hid (by rw [List.take_add_one, hgn]; exact worstL_snoc _ _ _)
      obtain ⟨g, o, rfl, hrd⟩ := (row.reads HX).at (by omega)
      have q0 : wr.cell? ⟨g, o + k, none⟩ = some (.int .i64 n) := hrd k _ (by rw [ints_get (get_getD (d := 0) (by simpa using hlt)), nats_getD, hn])
      obtain ⟨q, HY⟩ := book_open HX.swap
      have q1 := HY.cells 0
      have q2 := mapZ_lookup (P := Tryz.prog) (t := 114) (kt := 3) (et := 132) HY.swap (by kernel_rfl) (by kernel_rfl) (hz _) false (n : Int)
      rw [bz_nat hn4, hnB] at q2
      simp only [Bool.false_eq_true, if_false, Option.map_some, Option.getD_some] at q2
      unfold hasV at q2
      have HZ0 := HY.alloc (.cells #[.int .i64 u, .int .i64 m] 132)
      clear hrd hn hgn HX
      generalize hbp : wr.heap.size = bp at HZ0
      obtain ⟨acc, hacc⟩ : ∃ acc, worstL B (L.take k) = acc := ⟨_, rfl⟩
      have hop : ∀ a, acc = some a → midB B a := fun a ha => ((worstL_mid B _).1 a (hacc.trans ha)).2
      rw [hacc] at HTK ⊢
      clear hacc
      obtain ⟨og, hog⟩ : ∃ og, ofG u m = og := ⟨_, rfl⟩
      have cO := fun w' => gOf u m hle.2.2 (by omega) w'
      rw [hog] at cO
      by_cases hf : m ≤ u ∨ u = 0
      · have hog4 : og = 4 ∨ (og ≠ 4 ∧ og = 0) := by
          by_cases h4 : og = 4
          · exact .inl h4
          · refine .inr ⟨h4, ?_⟩
            rw [← hog]
            have h5 : ofG u m ≠ 4 := by rw [hog]; exact h4
            rw [ofG_zero h5]
            have : ¬ m ≤ u := fun x => h5 (ofG_full.2 x)
            omega
        have HBT : Hid (worse B acc n = acc) := Lib.hid (by unfold worse; rw [hnB]; exact if_neg (by dsimp only; omega))
        clear hog hf
        have CO := Lib.hid fun (w' : World) Y (h : Holds e w' Y) => retQ (cO w') h
        clear cO
        go_wp2_with fail
        refine (CO.out _ _ HZ0).mono ?_
        rintro en w3 ⟨rfl, HZ⟩
        clear HZ0
        rcases hog4 with rfl | ⟨_, rfl⟩
        · go_wp2_with fail
          obtain ⟨I, Wf, hI, hW, hWs⟩ := worlds_of HZ
          have r0 : ∀ i j, (Wf i).cell? ⟨bp, j, none⟩ = #[Value.int .i64 u, .int .i64 m][j]? := fun i => (hW i).cells
          have r1 : ∀ i, (Wf i).cell? ⟨bp, 0, none⟩ = some (.int .i64 u) := fun i => r0 i 0
          have r2 : ∀ i, (Wf i).cell? ⟨bp, 1, none⟩ = some (.int .i64 m) := fun i => r0 i 1
          clear r0
          refine wp_region_holds hWs HZ (by kernel_rfl) (by kernel_rfl) ?_
          (repeat (go_big_quiet_step (fail))); refine wpQuiet_nil ?_; intro _ hw'; obtain ⟨nq, hw''⟩ := hw'; subst hw''
          go_wp2_with fail
          go_roundw
          case rel => exact ⟨k + 1, by omega, by go_num, by rw [HTK.out, HBT.out]; try rfl, by rw [HTK.out, HBT.out]; try rfl, (book_close (hW nq).drop).swap⟩
          case measure => simp [intOf]; omega
        · go_wp2_with fail
          obtain ⟨I, Wf, hI, hW, hWs⟩ := worlds_of HZ
          have r0 : ∀ i j, (Wf i).cell? ⟨bp, j, none⟩ = #[Value.int .i64 u, .int .i64 m][j]? := fun i => (hW i).cells
          have r1 : ∀ i, (Wf i).cell? ⟨bp, 0, none⟩ = some (.int .i64 u) := fun i => r0 i 0
          have r2 : ∀ i, (Wf i).cell? ⟨bp, 1, none⟩ = some (.int .i64 m) := fun i => r0 i 1
          clear r0
          refine wp_region_holds hWs HZ (by kernel_rfl) (by kernel_rfl) ?_
          (repeat (go_big_quiet_step (fail))); refine wpQuiet_nil ?_; intro _ hw'; obtain ⟨nq, hw''⟩ := hw'; subst hw''
          go_wp2_with fail
          go_roundw
          case rel => exact ⟨k + 1, by omega, by go_num, by rw [HTK.out, HBT.out]; try rfl, by rw [HTK.out, HBT.out]; try rfl, (book_close (hW nq).drop).swap⟩
          case measure => simp [intOf]; omega
      · have hog4 : ((og : Int) != 4) = true := by
          have : og ≠ 4 := fun h => hf (.inl (ofG_full.1 (hog.trans h)))
          simp; omega
        have hog0 : ((og : Int) != 0) = true := by
          have h4 : ofG u m ≠ 4 := fun h => hf (.inl (ofG_full.1 h))
          have : og ≠ 0 := fun h => hf (.inr ((ofG_zero h4).1 (hog.trans h)))
          simp; omega
        clear hog
        have CO := Lib.hid fun (w' : World) Y (h : Holds e w' Y) => retQ (cO w') h
        clear cO
        cases acc with
        | none =>
          have HBT : Hid (worse B none n = some n) := Lib.hid (by unfold worse; rw [hnB]; exact if_pos (by dsimp only; omega))
          go_wp2_with fail
          refine (CO.out _ _ HZ0).mono ?_
          rintro en w3 ⟨rfl, HZ⟩
          clear HZ0
          go_wp2_with fail
          obtain ⟨I, Wf, hI, hW, hWs⟩ := worlds_of HZ
          have r0 : ∀ i j, (Wf i).cell? ⟨bp, j, none⟩ = #[Value.int .i64 u, .int .i64 m][j]? := fun i => (hW i).cells
          have r1 : ∀ i, (Wf i).cell? ⟨bp, 0, none⟩ = some (.int .i64 u) := fun i => r0 i 0
          have r2 : ∀ i, (Wf i).cell? ⟨bp, 1, none⟩ = some (.int .i64 m) := fun i => r0 i 1
          clear r0
          refine wp_region_holds hWs HZ (by kernel_rfl) (by kernel_rfl) ?_
          (repeat (go_big_quiet_step (fail))); refine wpQuiet_nil ?_; intro _ hw'; obtain ⟨nq, hw''⟩ := hw'; subst hw''
          go_wp2_with fail
          go_roundw
          case rel => exact ⟨k + 1, by omega, by go_num, by rw [HTK.out, HBT.out]; try rfl, by rw [HTK.out, HBT.out]; try rfl, (book_close (hW nq).drop).swap⟩
          case measure => simp [intOf]; omega
        | some a =>
          obtain ⟨⟨ua, ma⟩, hpa, hla⟩ := hop a rfl
          have hBa := hB.le a _ hpa
          dsimp only at hla hBa
          have HBT : Hid (worse B (some a) n = if u ≤ ua then some n else some a) := Lib.hid (by
            have e2 : usB B a = ua := by unfold usB; rw [hpa]
            rw [← e2]; unfold worse; rw [hnB]; exact if_pos (by dsimp only; omega))
          clear hf hla
          by_cases hcmp : u ≤ ua
          · have HBS : Hid (worse B (some a) n = some n) := Lib.hid (by rw [HBT.out, if_pos hcmp])
            have hcI : decide ((u : Int) ≤ (ua : Int)) = true := by simp; omega
            have hcN : decide (u ≤ ua) = true := by simp; omega
            go_wp2_with fail
            refine (CO.out _ _ HZ0).mono ?_
            rintro en w3 ⟨rfl, HZ⟩
            clear HZ0
            go_wp2_with fail
            obtain ⟨I, Wf, hI, hW, hWs⟩ := worlds_of HZ
            have r0 : ∀ i j, (Wf i).cell? ⟨bp, j, none⟩ = #[Value.int .i64 u, .int .i64 m][j]? := fun i => (hW i).cells
            have r1 : ∀ i, (Wf i).cell? ⟨bp, 0, none⟩ = some (.int .i64 u) := fun i => r0 i 0
            have r2 : ∀ i, (Wf i).cell? ⟨bp, 1, none⟩ = some (.int .i64 m) := fun i => r0 i 1
            have r3 : ∀ i, (Wf i).cell? ⟨b, 0, none⟩ = some (.map (some q)) := fun i => (hW i).swap.cells 0
            have r4 : ∀ i, (Instr.lookup 114 (.map (some q)) (.int .i64 a) false).run Tryz.prog (Wf i) = .ok (.agg #[.int .i64 ua, .int .i64 ma]) (Wf i) := fun i => by
              have h := mapZ_lookup (P := Tryz.prog) (t := 114) (kt := 3) (et := 132) (hW i).p2 (by kernel_rfl) (by kernel_rfl) (hz _) false (a : Int)
              rw [bz_nat (by omega), hpa] at h
              exact h
            have r5 : ∀ i, (Instr.field 132 (.agg #[.int .i64 ua, .int .i64 ma]) 0).run Tryz.prog (Wf i) = .ok (.int .i64 ua) (Wf i) := fun i => by kernel_rfl
            clear r0 hpa
            refine wp_region_holds hWs HZ (by kernel_rfl) (by kernel_rfl) ?_
            (repeat (go_big_quiet_step (fail))); refine wpQuiet_nil ?_; intro _ hw'; obtain ⟨nq, hw''⟩ := hw'; subst hw''
            go_wp2_with fail
            go_roundw
            case rel => exact ⟨k + 1, by omega, by go_num, by rw [HTK.out, HBS.out]; try rfl, by rw [HTK.out, HBS.out]; try rfl, (book_close (hW nq).drop).swap⟩
            case measure => simp [intOf]; omega
          · have HBS : Hid (worse B (some a) n = some a) := Lib.hid (by rw [HBT.out, if_neg hcmp])
            have hcmp2 : ua < u := by omega
            have hcI : decide ((u : Int) ≤ (ua : Int)) = false := by simp; omega
            have hcN : decide (u ≤ ua) = false := by simp; omega
            go_wp2_with fail
            refine (CO.out _ _ HZ0).mono ?_
            rintro en w3 ⟨rfl, HZ⟩
            clear HZ0
            go_wp2_with fail
            obtain ⟨I, Wf, hI, hW, hWs⟩ := worlds_of HZ
            have r0 : ∀ i j, (Wf i).cell? ⟨bp, j, none⟩ = #[Value.int .i64 u, .int .i64 m][j]? := fun i => (hW i).cells
            have r1 : ∀ i, (Wf i).cell? ⟨bp, 0, none⟩ = some (.int .i64 u) := fun i => r0 i 0
            have r2 : ∀ i, (Wf i).cell? ⟨bp, 1, none⟩ = some (.int .i64 m) := fun i => r0 i 1
            have r3 : ∀ i, (Wf i).cell? ⟨b, 0, none⟩ = some (.map (some q)) := fun i => (hW i).swap.cells 0
            have r4 : ∀ i, (Instr.lookup 114 (.map (some q)) (.int .i64 a) false).run Tryz.prog (Wf i) = .ok (.agg #[.int .i64 ua, .int .i64 ma]) (Wf i) := fun i => by
              have h := mapZ_lookup (P := Tryz.prog) (t := 114) (kt := 3) (et := 132) (hW i).p2 (by kernel_rfl) (by kernel_rfl) (hz _) false (a : Int)
              rw [bz_nat (by omega), hpa] at h
              exact h
            have r5 : ∀ i, (Instr.field 132 (.agg #[.int .i64 ua, .int .i64 ma]) 0).run Tryz.prog (Wf i) = .ok (.int .i64 ua) (Wf i) := fun i => by kernel_rfl
            clear r0 hpa
            refine wp_region_holds hWs HZ (by kernel_rfl) (by kernel_rfl) ?_
            (repeat (go_big_quiet_step (fail))); refine wpQuiet_nil ?_; intro _ hw'; obtain ⟨nq, hw''⟩ := hw'; subst hw''
            go_wp2_with fail
            go_roundw
            case rel => exact ⟨k + 1, by omega, by go_num, by rw [HTK.out, HBS.out]; try rfl, by rw [HTK.out, HBS.out]; try rfl, (book_close (hW nq).drop).swap⟩
            case measure => simp [intOf]; omega
    · obtain rfl : k = L.length := by omega
      rw [List.take_length]
      go_wp2_with fail
      go_ret2
      exact ⟨by rw [HBE.out]; rfl, HX.drop.swap.drop⟩
end
section
variable {e : Env} {w : World} {R : List HP} {b : Nat} {t : TabS}
/-- The handles of a page among 1 .. k. -/
def TabS.ofTo (t : TabS) (page : Int) : Nat → List Int
  | 0 => []
  | k + 1 => if t.all (k + 1) ≠ PlaceS.zero ∧ (t.all (k + 1)).page = page then t.ofTo page k ++ [((k + 1 : Nat) : Int)] else t.ofTo page k

theorem TabS.ofTo_len (t : TabS) (page : Int) : ∀ k, (t.ofTo page k).length ≤ k
  | 0 => by simp [TabS.ofTo]
  | k + 1 => by
    have := t.ofTo_len page k
    unfold TabS.ofTo
    split <;> simp <;> omega

set_option maxRecDepth 100000 in
set_option maxHeartbeats 400000 in
theorem hof_nil (x : Int) : Calls Tryz.prog 101 #[.pointer none, .int .i64 x] w (Quiet w (.slice none 0 0)) := by
  go_enter Tryz.func101, Tryz.ntmps101
  go_wp2
  go_loopw [5, 7] (fun v i wr => ∃ k : Nat, k ≤ 512 ∧ i = .int .i64 (k : Nat) ∧ v = .slice none 0 0 ∧ ∃ n, wr = w.drewN n) (fun _ i _ => 512 - (intOf i).toNat)
  case atStart => exact ⟨0, by omega, rfl, rfl, 0, rfl⟩
  case round =>
    obtain ⟨k, hk, rfl, rfl, nd, rfl⟩ := hrel
    by_cases hlt : k < 512
    · go_wp2_with (go_at_call 73; refine (in_nil _).mono ?_; rintro e w' ⟨rfl, m, rfl⟩)
      go_roundw
      case rel => exact ⟨k + 1, by omega, by go_num, rfl, _, rfl⟩
      case measure => simp [intOf]; omega
    · go_wp2
      go_ret
      exact ⟨rfl, _, rfl⟩

set_option maxRecDepth 100000 in
set_option maxHeartbeats 400000 in
theorem hof_ok (H : Holds e w (pts b t.obj :: R)) (x : Int) : Calls Tryz.prog 101 #[.pointer (some ⟨b, 0, none⟩), .int .i64 x] w
    (RetEx e (fun v => v) (fun v => row v 3 1 (t.ofTo x 512).length (ints (t.ofTo x 512)) :: pts b t.obj :: R)) := by
  go_enter Tryz.func101, Tryz.ntmps101
  go_wp2
  go_loopw [5, 7] (fun v i wr => ∃ k : Nat, k ≤ 512 ∧ i = .int .i64 (k : Nat) ∧ Holds e wr (row v 3 1 (t.ofTo x k).length (ints (t.ofTo x k)) :: pts b t.obj :: R)) (fun _ i _ => 512 - (intOf i).toNat)
  case atStart => exact ⟨0, by omega, rfl, row.nil _ _ H⟩
  case round =>
    obtain ⟨k, hk, rfl, HH⟩ := hrel
    by_cases hlt : k < 512
    · have hlen := t.ofTo_len x k
      by_cases hz : t.all (k + 1) = PlaceS.zero
      · have hstep : t.ofTo x (k + 1) = t.ofTo x k := by simp [TabS.ofTo, hz]
        have HS := Lib.hid hstep; have HZ := Lib.hid hz; clear hstep hz
        go_wp2_with fail
        refine (retQ (in_no HH.swap _ (.inr (.inr (by rw [show ((k : Int) + 1).toNat = k + 1 by omega]; exact HZ.out)))) HH).mono ?_
        rintro e w2 ⟨rfl, H2⟩
        go_wp2
        go_roundw
        case rel => exact ⟨k + 1, by omega, by go_num, by rw [HS.out]; exact H2⟩
        case measure => simp [intOf]; omega
      · have HZ := Lib.hid hz; clear hz
        go_wp2_with fail
        refine (retQ (in_yes HH.swap _ (by omega) (by omega) (by rw [show ((k : Int) + 1).toNat = k + 1 by omega]; exact HZ.out)) HH).mono ?_
        rintro e w2 ⟨rfl, H2⟩
        obtain ⟨c0, _, _⟩ := tab_cells H2.swap (h := k + 1) (by omega)
        by_cases hpg : (t.all (k + 1)).page = x
        · have hstep : t.ofTo x (k + 1) = t.ofTo x k ++ [((k + 1 : Nat) : Int)] := by
            show (if _ then _ else _) = _
            rw [if_pos ⟨HZ.out, hpg⟩]
          have HS := Lib.hid hstep; clear hstep
          have hpg' : ((t.all (k + 1)).page == x) = true := by simp [hpg]
          clear hpg
          go_wp2_with (at_builtin; refine wpList_append_sl rfl _ _ _ rfl 3 1 8 elem_int _ _ (ints (t.ofTo x k)) rfl ((H2.alloc _).swap) _ 1 (ints [((k + 1 : Nat) : Int)]) rfl ?_ (ints_one _) ?_ ?_ ?_)
          · exact reads_lit w2 [((k + 1 : Nat) : Int)] _ _ rfl
          · unfold maxLen; omega
          · omega
          intro v' w3 H3
          go_wp2
          go_roundw
          case rel => exact ⟨k + 1, by omega, by go_num, by rw [HS.out, ints_append, List.length_append]; exact (H3.swap).drop⟩
          case measure => simp [intOf]; omega
        · have hstep : t.ofTo x (k + 1) = t.ofTo x k := by
            show (if _ then _ else _) = _
            rw [if_neg (fun h => hpg h.2)]
          have HS := Lib.hid hstep; clear hstep
          have hpg' : ((t.all (k + 1)).page == x) = false := by simp [hpg]
          clear hpg
          go_wp2
          go_roundw
          case rel => exact ⟨k + 1, by omega, by go_num, by rw [HS.out]; exact H2⟩
          case measure => simp [intOf]; omega
    · obtain rfl : k = 512 := by omega
      go_wp2
      go_ret
      exact ⟨_, rfl, HH⟩
end

end Go.Proofs.YtheblkofemobdaaGreat

/-
  Package move: told, spare.
-/
namespace Go.Proofs.YtheblkofemobdaaGreat
open Go.RowKit

def iota (k : Nat) : List Int := (List.range k).map fun i : Nat => (i : Int)
theorem iota_length (k : Nat) : (iota k).length = k := by simp [iota]
theorem iota_succ (k : Nat) : iota (k + 1) = iota k ++ [(k : Int)] := by simp [iota, List.range_succ]
theorem iota_get {k i : Nat} (h : i < k) : (iota k)[i]? = some (i : Int) := by simp [iota, h]
def spPages (L : List (Nat × PgS)) (c : Int) : Nat := (L.filter fun p => decide ((p.2.cls : Int) = c)).length
def spMany (L : List (Nat × PgS)) (c : Int) : Nat := L.foldl (fun m p => if (p.2.cls : Int) = c then p.2.set.length else m) 1
def spareL (L : List (Nat × PgS)) (c : Int) : Int := (spPages L c : Int) - ((objectsOf L c + spMany L c - 1) / spMany L c : Nat)
theorem spPages_snoc (L : List (Nat × PgS)) (p : Nat × PgS) (c : Int) : spPages (L ++ [p]) c = spPages L c + if (p.2.cls : Int) = c then 1 else 0 := by
  unfold spPages
  rw [List.filter_append, List.length_append]
  by_cases h : (p.2.cls : Int) = c
  · rw [if_pos h, List.filter_cons_of_pos (by simpa using h)]; rfl
  · rw [if_neg h, List.filter_cons_of_neg (by simpa using h)]; rfl
theorem spMany_snoc (L : List (Nat × PgS)) (p : Nat × PgS) (c : Int) : spMany (L ++ [p]) c = if (p.2.cls : Int) = c then p.2.set.length else spMany L c := by
  unfold spMany
  rw [List.foldl_append]
  rfl
theorem spPages_le (L : List (Nat × PgS)) (c : Int) : spPages L c ≤ L.length := List.length_filter_le _ _
theorem spMany_from (c : Int) : ∀ (L : List (Nat × PgS)) (m : Nat), L.foldl (fun m p => if (p.2.cls : Int) = c then p.2.set.length else m) m = m ∨ ∃ p ∈ L, L.foldl (fun m p => if (p.2.cls : Int) = c then p.2.set.length else m) m = p.2.set.length
  | [], _ => .inl rfl
  | p :: L, m => by
    rw [List.foldl_cons]
    rcases spMany_from c L (if (p.2.cls : Int) = c then p.2.set.length else m) with h | ⟨q, hq, h⟩
    · by_cases hc : (p.2.cls : Int) = c
      · exact .inr ⟨p, by simp, by rw [h, if_pos hc]⟩
      · exact .inl (by rw [h, if_neg hc])
    · exact .inr ⟨q, by simp [hq], h⟩
theorem spMany_bd {L : List (Nat × PgS)} (h : ∀ p ∈ L, 1 ≤ p.2.set.length ∧ p.2.set.length ≤ 256) (c : Int) : 1 ≤ spMany L c ∧ spMany L c ≤ 256 := by
  rcases spMany_from c L 1 with h1 | ⟨p, hp, h1⟩
  · unfold spMany; rw [h1]; omega
  · unfold spMany; rw [h1]; exact h p hp
section
variable {e : Env} {w : World} {R A : List HP} {b tb rb : Nat} {S : PoolS} {M : RamS}
set_option maxRecDepth 100000 in
set_option maxHeartbeats 1000000 in
theorem mTold (H : Holds e w R) : Calls Tryz.prog 68 #[.slice none 0 0] w (RetEx e (fun v : Value => v) (fun v => row v 3 1 64 (ints (iota 64)) :: R)) := by
  go_enter Tryz.func68, Tryz.ntmps68
  go_wp2_with fail
  go_loopw [0, 8] (fun v i wr => ∃ k : Nat, k ≤ 64 ∧ i = .int .i64 (k : Nat) ∧ Holds e wr (row v 3 1 k (ints (iota k)) :: R)) (fun _ i _ => 64 - (intOf i).toNat)
  case atStart => exact ⟨0, by omega, rfl, row.nil _ _ H⟩
  case round =>
    obtain ⟨k, hk, rfl, HH⟩ := hrel
    by_cases hlt : k < 64
    · have HS := Lib.hid (iota_succ k)
      go_wp2_with (at_builtin; refine wpList_append_sl rfl _ _ _ rfl 3 1 8 elem_int _ _ (ints (iota k)) rfl ((HH.alloc _).swap) _ 1 (ints [(k : Int)]) rfl ?_ (ints_one _) ?_ ?_ ?_)
      · exact reads_lit wr [(k : Int)] _ _ rfl
      · unfold maxLen; omega
      · omega
      intro v' w3 H3
      go_wp2
      go_roundw
      case rel => exact ⟨k + 1, by omega, by go_num, by rw [HS.out, ints_append]; exact (H3.swap).drop⟩
      case measure => simp [intOf]; omega
    · obtain rfl : k = 64 := by omega
      go_wp2
      go_ret
      exact ⟨_, rfl, HH⟩
set_option maxRecDepth 100000 in
set_option maxHeartbeats 2000000 in
theorem mSpare (H : Holds e w (poolH b tb rb S :: R)) (hP : PoolOk M S) (x : Int) :
    Calls Tryz.prog 97 #[.pointer (some ⟨b, 0, none⟩), .int .i64 x] w (Ret e (.int .i64 (spareL (sheetsOf S.pgs 0) x)) (poolH b tb rb S :: R)) := by
  have hpl := hP.len
  have CS := Lib.hid (poSheets H (by omega) hP.rows)
  have hLl := sheetsOf_le S.pgs 0
  have hL4 : ∀ p ∈ sheetsOf S.pgs 0, 1 ≤ p.2.set.length ∧ p.2.set.length ≤ 256 := fun p hp => by
    have h1 := (hP.sheetF hp).1
    have h2 := h1.pos
    have h3 := cnt_le p.2.set
    have h4 := (cObjects_bd h1.cls).2
    rw [h1.set] at *
    omega
  have HL4 := Lib.hid hL4
  obtain ⟨L, hL⟩ : ∃ L, sheetsOf S.pgs 0 = L := ⟨_, rfl⟩
  rw [hL] at CS HL4 hLl ⊢
  have hLl2 : L.length ≤ 1000 := by omega
  clear hL hLl hL4 H hP hpl
  go_enter Tryz.func97, Tryz.ntmps97
  go_wp2_with fail
  refine CS.out.mono ?_
  rintro en w1 ⟨v, rfl, H1⟩
  obtain ⟨Q, h1⟩ := Holds.exE H1
  have h2 := Holds.ungrp h1
  have hQ := h2.purE
  have h3 : Holds e w1 (row v 45 5 Q.length (Q.flatMap shCells) :: all shRow Q :: poolH b tb rb S :: R) := h2.drop
  obtain ⟨av, cv, rfl⟩ := row_shape h3
  have hql : Q.length = L.length := by rw [← hQ, List.length_map]
  have HQ := Lib.hid hQ
  have hql2 : Q.length ≤ 1000 := by omega
  clear CS H1 h1 h2 hQ hql
  go_wp2_with fail
  go_loopw [5, 6, 7, 13] (fun y u m i wr => ∃ k, k ≤ Q.length ∧ i = .int .i64 (k : Nat) ∧ y = .int .i64 (spPages (L.take k) x) ∧ u = .int .i64 (objectsOf (L.take k) x) ∧ m = .int .i64 (spMany (L.take k) x) ∧ Holds e wr (row (.slice av Q.length cv) 45 5 Q.length (Q.flatMap shCells) :: all shRow Q :: poolH b tb rb S :: R)) (fun _ _ _ i _ => Q.length - (intOf i).toNat)
  case atStart => exact ⟨0, by omega, rfl, rfl, rfl, rfl, h3⟩
  case round =>
    obtain ⟨k, hk, rfl, rfl, rfl, rfl, HX⟩ := hrel
    clear h3
    have hb2 : objectsOf (L.take k) x ≤ 256000 := by
      have := objectsOf_le (c := x) (L := L.take k) fun p hp => (HL4.out p (List.mem_of_mem_take hp)).2
      rw [List.length_take] at this
      omega
    have hb3 : spPages (L.take k) x ≤ 1000 := by
      have := spPages_le (L.take k) x
      rw [List.length_take] at this
      omega
    by_cases hlt : k < Q.length
    · obtain ⟨q, hq⟩ : ∃ q, Q[k]? = some q := ⟨_, List.getElem?_eq_getElem hlt⟩
      have hLk : L[k]? = some q.1 := by rw [← HQ.out, List.getElem?_map, hq]; rfl
      obtain ⟨ra, rc, hqv⟩ := row_shape (Holds.focus (f := shRow) hq HX.swap)
      obtain ⟨g0, o0, rfl, _⟩ := (row.reads HX).at (by omega)
      obtain ⟨c0, c1, c2, c3, c4⟩ := sh_cells (row.reads HX) hq
      rw [hqv] at c4
      have htk : L.take (k + 1) = L.take k ++ [q.1] := by rw [List.take_add_one, hLk]; rfl
      have HF := Lib.hid (objectsOf_snoc (L.take k) q.1 x)
      have HF3 := Lib.hid (spPages_snoc (L.take k) q.1 x)
      have HF4 := Lib.hid (spMany_snoc (L.take k) q.1 x)
      rw [← htk] at HF HF3 HF4
      have hb1 : cnt q.1.2.set ≤ 256 := Nat.le_trans (cnt_le _) (HL4.out _ (List.mem_of_getElem? hLk)).2
      have H2 := Lib.hid (HX.alloc (.cells #[.int .i64 q.1.1, .int .i64 q.1.2.cls, .int .i64 (cnt q.1.2.set), .int .i64 q.1.2.set.length, .slice ra q.1.2.row.length rc] 45)).drop
      clear hq hLk hqv HX htk
      generalize objectsOf (L.take k) x = fk at *
      generalize spPages (L.take k) x = pk at *
      generalize spMany (L.take k) x = mk at *
      by_cases hcx : (q.1.2.cls : Int) = x
      · have HF2 : Hid (objectsOf (L.take (k + 1)) x = fk + cnt q.1.2.set ∧ spPages (L.take (k + 1)) x = pk + 1 ∧ spMany (L.take (k + 1)) x = q.1.2.set.length) := Lib.hid ⟨by rw [HF.out, if_pos hcx], by rw [HF3.out, if_pos hcx], by rw [HF4.out, if_pos hcx]⟩
        subst hcx
        go_wp2_with fail
        go_roundw
        case rel => exact ⟨k + 1, by omega, by go_num, by rw [HF2.out.2.1]; go_num, by rw [HF2.out.1]; go_num, by rw [HF2.out.2.2], H2.out⟩
        case measure => simp [intOf]; omega
      · have HF2 : Hid (objectsOf (L.take (k + 1)) x = fk ∧ spPages (L.take (k + 1)) x = pk ∧ spMany (L.take (k + 1)) x = mk) := Lib.hid ⟨by rw [HF.out, if_neg hcx]; rfl, by rw [HF3.out, if_neg hcx]; rfl, by rw [HF4.out, if_neg hcx]⟩
        go_wp2_with fail
        go_roundw
        case rel => exact ⟨k + 1, by omega, by go_num, by rw [HF2.out.2.1], by rw [HF2.out.1], by rw [HF2.out.2.2], H2.out⟩
        case measure => simp [intOf]; omega
    · obtain rfl : k = Q.length := by omega
      have hQ2 : L.take Q.length = L := List.take_of_length_le (by rw [← HQ.out, List.length_map]; exact Nat.le_refl _)
      rw [hQ2] at hb2 hb3 ⊢
      obtain ⟨hm1, hm2⟩ := spMany_bd HL4.out x
      have HZ := HX.drop.drop
      clear hQ2 HX
      have HV : Hid (spareL L x = (spPages L x : Int) - ((objectsOf L x + spMany L x - 1) / spMany L x : Nat)) := Lib.hid rfl
      have hq1 : (objectsOf L x + spMany L x - 1) / spMany L x ≤ 256300 := Nat.le_trans (Nat.div_le_self _ _) (by omega)
      generalize objectsOf L x = fk at *
      generalize spPages L x = pk at *
      generalize spMany L x = mk at *
      obtain ⟨q, hq⟩ : ∃ q : Nat, (fk + mk - 1) / mk = q := ⟨_, rfl⟩
      rw [hq] at HV hq1
      have d1 : ((fk : Int) + (mk : Int) - 1) / (mk : Int) = (q : Int) := by
        rw [← hq, Int.natCast_ediv]
        congr 1
        omega
      have d2 : ((fk : Int) + (mk : Int) - 1).tdiv (mk : Int) = (q : Int) := by rw [Int.tdiv_eq_ediv_of_nonneg (by omega), d1]
      have d3 : (mk : Int) ≠ 0 := by omega
      have d4 : IntKind.i64.wrap ((fk : Int) + (mk : Int) - 1) = (fk : Int) + (mk : Int) - 1 := IntWalk.i64_in _ (by omega)
      clear hq
      go_wp2_with fail
      go_ret
      exact ⟨by rw [HV.out]; rfl, HZ⟩
end
end Go.Proofs.YtheblkofemobdaaGreat

/-
  Package move: worst.
-/
namespace Go.Proofs.YtheblkofemobdaaGreat
open Go.RowKit

def bkC (L : List (Nat × PgS)) (c : Nat) : Bk := L.foldl (fun B p => if p.2.cls = c then bput B p.1 (cnt p.2.set, p.2.set.length) else B) (fun _ => none)
theorem bkC_snoc (L : List (Nat × PgS)) (p : Nat × PgS) (c : Nat) : bkC (L ++ [p]) c = if p.2.cls = c then bput (bkC L c) p.1 (cnt p.2.set, p.2.set.length) else bkC L c := by
  unfold bkC
  rw [List.foldl_append]
  rfl
theorem bkC_law (c : Nat) (L : List (Nat × PgS)) : (∀ n q, bkC L c n = some q → ∃ g, (n, g) ∈ L ∧ g.cls = c ∧ q = (cnt g.set, g.set.length)) ∧ ∀ n g, (n, g) ∈ L → g.cls = c → ∃ q, bkC L c n = some q := by
  suffices h : ∀ r : List (Nat × PgS), (∀ n q, bkC r.reverse c n = some q → ∃ g, (n, g) ∈ r.reverse ∧ g.cls = c ∧ q = (cnt g.set, g.set.length)) ∧ ∀ n g, (n, g) ∈ r.reverse → g.cls = c → ∃ q, bkC r.reverse c n = some q by
    have := h L.reverse
    rwa [List.reverse_reverse] at this
  intro r
  induction r with
  | nil => exact ⟨fun n q h => (by cases h), fun n g h => (by simp at h)⟩
  | cons p r ih =>
    rw [List.reverse_cons, bkC_snoc]
    obtain ⟨i1, i2⟩ := ih
    by_cases hc : p.2.cls = c
    · rw [if_pos hc]
      constructor
      · intro n q h
        unfold bput at h
        by_cases e : n = p.1
        · rw [if_pos e] at h
          cases h
          exact ⟨p.2, by rw [e]; simp, hc, rfl⟩
        · rw [if_neg e] at h
          obtain ⟨g, h1, h2⟩ := i1 n q h
          exact ⟨g, by rw [List.mem_append]; exact .inl h1, h2⟩
      · intro n g h hg
        unfold bput
        by_cases e : n = p.1
        · exact ⟨_, if_pos e⟩
        · rw [if_neg e]
          rcases List.mem_append.1 h with h1 | h1
          · exact i2 n g h1 hg
          · have := List.mem_singleton.1 h1
            exact absurd (congrArg Prod.fst this) e
    · rw [if_neg hc]
      constructor
      · intro n q h
        obtain ⟨g, h1, h2⟩ := i1 n q h
        exact ⟨g, by rw [List.mem_append]; exact .inl h1, h2⟩
      · intro n g h hg
        rcases List.mem_append.1 h with h1 | h1
        · exact i2 n g h1 hg
        · have := List.mem_singleton.1 h1
          rw [← this] at hc
          exact absurd hg hc
/-- What worst answers: a page of the class with an object and room, or none if there is none. -/
def WorstOk (L : List (Nat × PgS)) (c : Nat) : Option Nat → Prop
  | some n => ∃ g, (n, g) ∈ L ∧ g.cls = c
  | none => ∀ p ∈ L, p.2.cls = c → ¬ cnt p.2.set < p.2.set.length
theorem bnums_mem {B : Bk} {n : Nat} (h : n < 4096) (hB : (B n).isSome) : n ∈ bnums B [] := by
  simp only [bnums, List.mem_filter, List.mem_range, Bool.and_eq_true]
  refine And.intro h (And.intro hB ?_)
  simp
theorem worst_ok {M : RamS} {S : PoolS} (hP : PoolOk M S) (c : Nat) {r : Option Nat} (hr : worstB (bkC (sheetsOf S.pgs 0) c) = r) : WorstOk (sheetsOf S.pgs 0) c r := by
  obtain ⟨i1, i2⟩ := bkC_law c (sheetsOf S.pgs 0)
  obtain ⟨j1, j2⟩ := worstL_mid (bkC (sheetsOf S.pgs 0) c) (bnums (bkC (sheetsOf S.pgs 0) c) [])
  obtain ⟨bs, hbs⟩ : ∃ bs, bnums (bkC (sheetsOf S.pgs 0) c) [] = bs := ⟨_, rfl⟩
  have hbm : ∀ n, n < 4096 → (bkC (sheetsOf S.pgs 0) c n).isSome → n ∈ bs := fun n h1 h2 => hbs ▸ bnums_mem h1 h2
  unfold worstB at hr
  rw [hbs] at j1 j2 hr
  rw [hr] at j1 j2
  clear hbs hr
  cases r with
  | some a =>
    obtain ⟨_, p, hp, _⟩ := j1 a rfl
    obtain ⟨g, h1, h2, _⟩ := i1 a p hp
    exact ⟨g, h1, h2⟩
  | none =>
    rintro ⟨n, g⟩ hp hc hlt
    obtain ⟨q, hq⟩ := i2 n g hp hc
    obtain ⟨g', h1, _, h3⟩ := i1 n q hq
    obtain ⟨h4, _⟩ := hP.sheet hp
    obtain ⟨h5, _⟩ := hP.sheet h1
    rw [h4] at h5
    cases h5
    have h6 := (hP.sheetF hp)
    dsimp only at hlt h6
    have h7 : n ∈ bs := hbm n (by omega) (by rw [hq]; rfl)
    exact j2 rfl n h7 ⟨q, hq, by rw [h3]; exact h6.1.pos, by rw [h3]; exact hlt⟩
theorem bkC_ok {M : RamS} {S : PoolS} (hP : PoolOk M S) (c k : Nat) : BkOk (bkC ((sheetsOf S.pgs 0).take k) c) := ⟨fun n p hp => by
  obtain ⟨g, h1, _, rfl⟩ := (bkC_law c _).1 n p hp
  obtain ⟨h2, h3⟩ := hP.sheetF (List.mem_of_mem_take h1)
  have h4 := cnt_le g.set
  have h5 := (cObjects_bd h2.cls).2
  have h6 := h2.set
  dsimp only at h3 h5 h6 ⊢
  omega⟩
abbrev WQ := Nat × Bool × (Int × Int × Int) × (Option Addr × Nat × Nat)
def WQ.val (q : WQ) : Value := .tuple #[.agg #[.int .i64 q.1, .int .i64 q.2.2.1.1, .int .i64 q.2.2.1.2.1, .int .i64 q.2.2.1.2.2, .slice q.2.2.2.1 q.2.2.2.2.1 q.2.2.2.2.2], .bool q.2.1]
def WQ.res (q : WQ) : Option Nat := if q.2.1 then some q.1 else none
section
variable {e : Env} {w : World} {R A : List HP} {b tb rb : Nat} {S : PoolS} {M : RamS}
set_option maxRecDepth 100000 in
set_option maxHeartbeats 2000000 in
theorem mWorst (H : Holds e w (poolH b tb rb S :: R)) (hP : PoolOk M S) {c : Nat} (hc64 : c < 64) :
    Calls Tryz.prog 100 #[.pointer (some ⟨b, 0, none⟩), .int .i64 c] w (RetEx e WQ.val (fun q => pur (WorstOk (sheetsOf S.pgs 0) c q.res) :: poolH b tb rb S :: R)) := by
  have hpl := hP.len
  have CS := Lib.hid fun (w' : World) (Y : List HP) (h : Holds e w' (poolH b tb rb S :: Y)) => poSheets h (by omega) hP.rows
  have CN := Lib.hid fun (w' : World) (Y : List HP) (h : Holds e w' Y) => gNew h
  have hLl := sheetsOf_le S.pgs 0
  have hWO := Lib.hid fun r => worst_ok hP c (r := r)
  have hBK := Lib.hid fun k => bkC_ok hP c k
  have hL4 : ∀ p ∈ sheetsOf S.pgs 0, p.1 < 512 ∧ p.2.cls < 64 ∧ cnt p.2.set ≤ p.2.set.length ∧ p.2.set.length ≤ 256 := fun p hp => by
    obtain ⟨h1, h5⟩ := (hP.sheetF hp)
    have h3 := cnt_le p.2.set
    have h4 := (cObjects_bd h1.cls).2
    have h6 := h1.cls
    rw [← h1.set] at h4
    omega
  have HL4 := Lib.hid hL4
  obtain ⟨L, hL⟩ : ∃ L, sheetsOf S.pgs 0 = L := ⟨_, rfl⟩
  rw [hL] at CS HL4 hLl hWO hBK ⊢
  have hLl2 : L.length ≤ 1000 := by omega
  clear hL hLl hL4 hP hpl
  have H0 := H.alloc (.cells #[.int .i64 0, .int .i64 0, .int .i64 0, .int .i64 0, .slice none 0 0] 45)
  obtain ⟨r4, hr4⟩ : ∃ r4, w.heap.size = r4 := ⟨_, rfl⟩
  rw [hr4] at H0
  clear H
  go_enter Tryz.func100, Tryz.ntmps100
  go_wp2_with fail
  refine (CN.out _ _ H0).mono ?_
  rintro en w0 ⟨bb, rfl, H1⟩
  clear CN H0
  go_wp2_with fail
  refine (CS.out _ _ (H1.take (Take.there _ (Take.there _ (Take.here _ _))))).mono ?_
  rintro en w1 ⟨v, rfl, H2⟩
  obtain ⟨Q, h1⟩ := Holds.exE H2
  have h2 := Holds.ungrp h1
  have hQ := h2.purE
  have h3 : Holds e w1 (row v 45 5 Q.length (Q.flatMap shCells) :: all shRow Q :: poolH b tb rb S :: grpB bb (fun _ => none) :: pts r4 (.cells #[.int .i64 0, .int .i64 0, .int .i64 0, .int .i64 0, .slice none 0 0] 45 (0, 0)) :: R) := h2.drop
  obtain ⟨av, cv, rfl⟩ := row_shape h3
  have hql : Q.length = L.length := by rw [← hQ, List.length_map]
  have HQ := Lib.hid hQ
  have hql2 : Q.length ≤ 1000 := by omega
  clear H1 H2 h1 h2 hQ hql
  go_wp2_with fail
  go_loopw [17] (fun i wr => ∃ k, k ≤ Q.length ∧ i = .int .i64 (k : Nat) ∧ Holds e wr (row (.slice av Q.length cv) 45 5 Q.length (Q.flatMap shCells) :: all shRow Q :: poolH b tb rb S :: grpB bb (bkC (L.take k) c) :: pts r4 (.cells #[.int .i64 0, .int .i64 0, .int .i64 0, .int .i64 0, .slice none 0 0] 45 (0, 0)) :: R)) (fun i _ => Q.length - (intOf i).toNat)
  case atStart => exact ⟨0, by omega, rfl, h3⟩
  case round =>
    obtain ⟨k, hk, rfl, HX⟩ := hrel
    clear h3
    by_cases hlt : k < Q.length
    · obtain ⟨q, hq⟩ : ∃ q, Q[k]? = some q := ⟨_, List.getElem?_eq_getElem hlt⟩
      have hLk : L[k]? = some q.1 := by rw [← HQ.out, List.getElem?_map, hq]; rfl
      obtain ⟨ra, rc, hqv⟩ := row_shape (Holds.focus (f := shRow) hq HX.swap)
      obtain ⟨g0, o0, rfl, _⟩ := (row.reads HX).at (by omega)
      obtain ⟨c0, c1, c2, c3, c4⟩ := sh_cells (row.reads HX) hq
      rw [hqv] at c4
      have htk : L.take (k + 1) = L.take k ++ [q.1] := by rw [List.take_add_one, hLk]; rfl
      have HF := Lib.hid (bkC_snoc (L.take k) q.1 c)
      rw [← htk] at HF
      obtain ⟨hb0, hb1, hb2, hb3⟩ := HL4.out _ (List.mem_of_getElem? hLk)
      have H2 := (HX.alloc (.cells #[.int .i64 q.1.1, .int .i64 q.1.2.cls, .int .i64 (cnt q.1.2.set), .int .i64 q.1.2.set.length, .slice ra q.1.2.row.length rc] 45)).drop
      clear hq hLk hqv HX htk
      generalize bkC (L.take k) c = Bk at *
      by_cases hcx : q.1.2.cls = c
      · have HF2 : Hid (bkC (L.take (k + 1)) c = bput Bk q.1.1 (cnt q.1.2.set, q.1.2.set.length)) := Lib.hid (by rw [HF.out, if_pos hcx])
        have HP2 := Lib.hid (gPut (H2.take (Take.there _ (Take.there _ (Take.there _ (Take.here _ _))))) (n := q.1.1) (by omega) hb2)
        subst hcx
        clear H2
        go_wp2_with fail
        refine HP2.out.mono ?_
        rintro en w5 ⟨rfl, H3⟩
        have H5 := Lib.hid (H3.imp fun _ => Sat.q3)
        go_wp2_with fail
        go_roundw
        case rel => exact ⟨k + 1, by omega, by go_num, by rw [HF2.out]; exact H5.out⟩
        case measure => simp [intOf]; omega
      · have HF2 : Hid (bkC (L.take (k + 1)) c = Bk) := Lib.hid (by rw [HF.out, if_neg hcx])
        have hci : ¬ (q.1.2.cls : Int) = c := by omega
        clear hcx
        go_wp2_with fail
        go_roundw
        case rel => exact ⟨k + 1, by omega, by go_num, by rw [HF2.out]; exact H2⟩
        case measure => simp [intOf]; omega
    · obtain rfl : k = Q.length := by omega
      have hQ2 : L.take Q.length = L := List.take_of_length_le (by rw [← HQ.out, List.length_map]; exact Nat.le_refl _)
      have CW := Lib.hid (gWorst (HX.drop.drop).swap (hBK.out Q.length))
      rw [hQ2] at CW
      clear HX hQ2 hBK HQ hk hlt hql2
      obtain ⟨r, hr⟩ : ∃ r, worstB (bkC L c) = r := ⟨_, rfl⟩
      rw [hr] at CW
      have hWO := Lib.hid (hWO.out r hr)
      clear hr
      go_wp2_with fail
      refine CW.out.mono ?_
      rintro en w5 ⟨rfl, H3⟩
      clear CW
      go_wp2_with fail
      refine (CS.out _ _ H3.drop).mono ?_
      rintro en w6 ⟨v', rfl, H4⟩
      clear CS H3
      obtain ⟨Q', h1⟩ := Holds.exE H4
      have h2 := Holds.ungrp h1
      have hQ := h2.purE
      have h3 : Holds e w6 (row v' 45 5 Q'.length (Q'.flatMap shCells) :: all shRow Q' :: poolH b tb rb S :: pts r4 (.cells #[.int .i64 0, .int .i64 0, .int .i64 0, .int .i64 0, .slice none 0 0] 45 (0, 0)) :: R) := h2.drop
      obtain ⟨av', cv', rfl⟩ := row_shape h3
      have hql : Q'.length = L.length := by rw [← hQ, List.length_map]
      have HQ := Lib.hid hQ
      have hql2 : Q'.length ≤ 1000 := by omega
      clear H4 h1 h2 hQ
      cases r with
      | none =>
        go_wp2_with fail
        go_loopw [42] (fun i wr => ∃ k, k ≤ Q'.length ∧ i = .int .i64 (k : Nat) ∧ Holds e wr (row (.slice av' Q'.length cv') 45 5 Q'.length (Q'.flatMap shCells) :: all shRow Q' :: poolH b tb rb S :: pts r4 (.cells #[.int .i64 0, .int .i64 0, .int .i64 0, .int .i64 0, .slice none 0 0] 45 (0, 0)) :: R)) (fun i _ => Q'.length - (intOf i).toNat)
        case atStart => exact ⟨0, by omega, rfl, h3⟩
        case round =>
          obtain ⟨k, hk, rfl, HX⟩ := hrel
          clear h3
          by_cases hlt : k < Q'.length
          · obtain ⟨q, hq⟩ : ∃ q, Q'[k]? = some q := ⟨_, List.getElem?_eq_getElem hlt⟩
            obtain ⟨ra, rc, hqv⟩ := row_shape (Holds.focus (f := shRow) hq HX.swap)
            obtain ⟨g0, o0, rfl, _⟩ := (row.reads HX).at (by omega)
            obtain ⟨c0, c1, c2, c3, c4⟩ := sh_cells (row.reads HX) hq
            rw [hqv] at c4
            have H2 := (HX.alloc (.cells #[.int .i64 q.1.1, .int .i64 q.1.2.cls, .int .i64 (cnt q.1.2.set), .int .i64 q.1.2.set.length, .slice ra q.1.2.row.length rc] 45)).drop
            clear hq hqv HX
            go_wp2_with fail
            go_roundw
            case rel => exact ⟨k + 1, by omega, by go_num, H2⟩
            case measure => simp [intOf]; omega
          · obtain rfl : k = Q'.length := by omega
            have HZ := HX.drop.drop.swap
            have hf := HZ.frozen
            have hc := HZ.cells
            clear HX
            go_wp2_with fail
            refine bodyPost_at ((((((HZ.set 0 _).set 1 _).set 2 _).set 3 _).set 4 _)) fun w9 H9 => ?_
            have hc9 := H9.cells
            exact bodyPost_ret (v := WQ.val (0, false, (0, 0, 0), (none, 0, 0))) (by simp [results, Tryz.results100, go_sem, WQ.val, hc9]) rfl ⟨_, rfl, Holds.mkPur hWO.out H9.drop⟩
      | some a =>
        obtain ⟨ga, hga, hgc⟩ := hWO.out
        obtain ⟨ia, hia⟩ := List.getElem?_of_mem hga
        have hia2 : ia < Q'.length := by rw [hql]; exact (List.getElem?_eq_some_iff.1 hia).1
        have HIA := Lib.hid hia
        have ha512 := (HL4.out _ hga).1
        dsimp only at ha512
        clear hia hga hgc
        go_wp2_with fail
        go_loopw [42] (fun i wr => ∃ k, k ≤ ia ∧ i = .int .i64 (k : Nat) ∧ Holds e wr (row (.slice av' Q'.length cv') 45 5 Q'.length (Q'.flatMap shCells) :: all shRow Q' :: poolH b tb rb S :: pts r4 (.cells #[.int .i64 0, .int .i64 0, .int .i64 0, .int .i64 0, .slice none 0 0] 45 (0, 0)) :: R)) (fun i _ => Q'.length - (intOf i).toNat)
        case atStart => exact ⟨0, by omega, rfl, h3⟩
        case round =>
          obtain ⟨k, hk, rfl, HX⟩ := hrel
          clear h3
          have hlt : k < Q'.length := by omega
          obtain ⟨q, hq⟩ : ∃ q, Q'[k]? = some q := ⟨_, List.getElem?_eq_getElem hlt⟩
          have hLk : L[k]? = some q.1 := by rw [← HQ.out, List.getElem?_map, hq]; rfl
          obtain ⟨ra, rc, hqv⟩ := row_shape (Holds.focus (f := shRow) hq HX.swap)
          obtain ⟨g0, o0, rfl, _⟩ := (row.reads HX).at (by omega)
          obtain ⟨c0, c1, c2, c3, c4⟩ := sh_cells (row.reads HX) hq
          rw [hqv] at c4
          have H2 := (HX.alloc (.cells #[.int .i64 q.1.1, .int .i64 q.1.2.cls, .int .i64 (cnt q.1.2.set), .int .i64 q.1.2.set.length, .slice ra q.1.2.row.length rc] 45))
          obtain ⟨bq, hbq⟩ : ∃ bq, wr.heap.size = bq := ⟨_, rfl⟩
          rw [hbq] at H2
          have hq5 := (HL4.out _ (List.mem_of_getElem? hLk)).1
          have hkia : q.1.1 ≠ a → k + 1 ≤ ia := fun h => by
            by_cases h1 : k = ia
            · subst h1
              have h2 := HIA.out
              rw [hLk] at h2
              exact absurd (congrArg Prod.fst (Option.some.inj h2)) h
            · omega
          clear hq hqv HX hLk
          by_cases hpa : q.1.1 = a
          · have hpI : ((q.1.1 : Int) == (a : Int)) = true := by simp; omega
            have HPA := Lib.hid hpa
            have HZ := H2.p4
            have hf := HZ.frozen
            have hc := HZ.cells
            have hd := HZ.swap.cells
            have d0 := hd 0
            have d1 := hd 1
            have d2 := hd 2
            have d3 := hd 3
            have d4 := hd 4
            clear H2 hkia hpa
            go_wp2_with fail
            refine bodyPost_at ((((((HZ.set 0 _).set 1 _).set 2 _).set 3 _).set 4 _)) fun w9 H9 => ?_
            have hc9 := H9.cells
            exact bodyPost_ret (v := WQ.val (q.1.1, true, ((q.1.2.cls : Int), (cnt q.1.2.set : Int), (q.1.2.set.length : Int)), (ra, q.1.2.row.length, rc))) (by simp [results, Tryz.results100, go_sem, WQ.val, hc9]) rfl ⟨_, rfl, Holds.mkPur (show WorstOk L c (some q.1.1) by rw [HPA.out]; exact hWO.out) (H9.drop.drop.drop.drop)⟩
          · have hpI : ((q.1.1 : Int) == (a : Int)) = false := by simp; omega
            have hk1 := hkia hpa
            clear hkia hpa
            go_wp2_with fail
            go_roundw
            case rel => exact ⟨k + 1, by omega, by go_num, H2.drop⟩
            case measure => simp [intOf]; omega
end
end Go.Proofs.YtheblkofemobdaaGreat

/-
  move: the plain laws: a page has handles; how many pages a class has; a full class has nothing to spare.
-/
namespace Go.Proofs.YtheblkofemobdaaGreat
open Go.RowKit

theorem nd_len {α : Type} [DecidableEq α] : ∀ (l l' : List α), l.Nodup → (∀ x ∈ l, x ∈ l') → l.length ≤ l'.length
  | [], _, _, _ => Nat.zero_le _
  | a :: l, l', hn, hs => by
    have ha := hs a (by simp)
    have h1 := nd_len l (l'.erase a) (List.nodup_cons.1 hn).2 fun x hx => by
      have hne : x ≠ a := fun e => (List.nodup_cons.1 hn).1 (e ▸ hx)
      exact (List.mem_erase_of_ne hne).2 (hs x (by simp [hx]))
    rw [List.length_erase_of_mem ha] at h1
    have h2 := List.length_pos_of_mem ha
    rw [List.length_cons]
    omega
def truesOf (s : List Bool) : List Nat := (List.range s.length).filter fun i => s.getD i false
theorem truesOf_len (s : List Bool) : (truesOf s).length = cnt s := by
  have h1 := cnt_free s ((List.range s.length).filter fun i => !s.getD i false) (List.Pairwise.filter _ List.nodup_range) fun n => by
    rw [List.mem_filter, List.mem_range]
    simp
  have h4 : ∀ (p : Nat → Bool) (xs : List Nat), (xs.filter fun i => !p i).length + (xs.filter p).length = xs.length := by
    intro p xs
    induction xs with
    | nil => rfl
    | cons x xs ih => by_cases hp : p x = true <;> simp [hp] <;> omega
  have h2 := h4 (fun i => s.getD i false) (List.range s.length)
  rw [List.length_range] at h2
  unfold truesOf
  omega
def bitsOf : Pgs → Nat → List (Nat × Nat)
  | [], _ => []
  | none :: l, n => bitsOf l (n + 1)
  | some g :: l, n => (truesOf g.set).map (fun k => (n, k)) ++ bitsOf l (n + 1)
theorem bitsOf_len : ∀ (l : Pgs) (n : Nat), (bitsOf l n).length = wsum (fun _ => 1) l
  | [], _ => rfl
  | none :: l, n => by
    rw [bitsOf, bitsOf_len l (n + 1)]
    unfold wsum
    rw [List.map_cons, List.sum_cons]
    simp [pgUse]
  | some g :: l, n => by
    rw [bitsOf, List.length_append, List.length_map, truesOf_len, bitsOf_len l (n + 1)]
    unfold wsum
    rw [List.map_cons, List.sum_cons]
    simp [pgUse]
theorem bitsOf_mem : ∀ (l : Pgs) (n i k : Nat) (g : PgS), l[i]? = some (some g) → k < g.set.length → g.set.getD k false = true → (n + i, k) ∈ bitsOf l n
  | [], _, _, _, _, h, _, _ => by cases h
  | none :: l, n, 0, _, _, h, _, _ => by cases h
  | none :: l, n, i + 1, k, g, h, h1, h2 => by
    have := bitsOf_mem l (n + 1) i k g (by simpa using h) h1 h2
    rw [show n + (i + 1) = n + 1 + i by omega]
    exact this
  | some g0 :: l, n, 0, k, g, h, h1, h2 => by
    cases h
    rw [bitsOf, List.mem_append]
    exact .inl (List.mem_map.2 ⟨k, List.mem_filter.2 ⟨List.mem_range.2 h1, h2⟩, rfl⟩)
  | some g0 :: l, n, i + 1, k, g, h, h1, h2 => by
    have := bitsOf_mem l (n + 1) i k g (by simpa using h) h1 h2
    rw [bitsOf, List.mem_append, show n + (i + 1) = n + 1 + i by omega]
    exact .inr this
section
variable {M M' : RamS} {S S' : PoolS} {n h : Nat} {g : PgS}
/-- A page that is open has a handle. -/
theorem PoolOk.has (hP : PoolOk M S) (hn : S.pgs[n]? = some (some g)) : ∃ x : Nat, 1 ≤ x ∧ x ≤ 512 ∧ S.tab.all x ≠ PlaceS.zero ∧ (S.tab.all x).page = (n : Int) := by
  apply Classical.byContradiction
  intro hno
  have h1 := wsum_set (fun _ => 1) (y := none) hn
  have h2 := hP.pos n g hn
  have h3 := hP.tab.sum fun _ => 1
  simp only [pgUse, Nat.one_mul, Nat.add_zero] at h1
  dsimp only at h3
  rw [Nat.add_zero, hsum_hndl, ← bitsOf_len _ 0] at h3
  rw [← bitsOf_len _ 0, ← bitsOf_len _ 0] at h1
  have h4 : ((hndl S.tab).map fun x => (fun _ => 1) (S.tab.all x.toNat)).sum = (hndl S.tab).length := by
    generalize hndl S.tab = l
    induction l with
    | nil => rfl
    | cons a l ih => rw [List.map_cons, List.sum_cons, ih, List.length_cons]; exact Nat.add_comm 1 _
  rw [h4] at h3
  have h5 := nd_len ((hndl S.tab).map fun x => ((S.tab.all x.toNat).page.toNat, (S.tab.all x.toNat).obj.toNat)) (bitsOf (S.pgs.set n none) 0)
    (by
      unfold List.Nodup
      rw [List.pairwise_map]
      refine List.Pairwise.imp_of_mem (R := fun a b => a ≠ b) (fun {a b} ha hb hab e => hab ?_) (hndl_nd S.tab)
      obtain ⟨n1, o1, l1, g1, V1, ea, a1, a2⟩ := hP.at (hndl_mem.1 ha)
      obtain ⟨n2, o2, l2, g2, V2, eb, b1, b2⟩ := hP.at (hndl_mem.1 hb)
      have e1 := congrArg Prod.fst e
      have e2 := congrArg Prod.snd e
      dsimp only at e1 e2
      have := hP.tab.dist a.toNat b.toNat a1 a2 b1 b2 (by rw [V1.eq]; exact place_nz _ _ V1.l1) (by rw [V2.eq]; exact place_nz _ _ V2.l1)
        (by rw [V1.eq, V2.eq] at e1 ⊢; dsimp only at e1 ⊢; omega) (by rw [V1.eq, V2.eq] at e2 ⊢; dsimp only at e2 ⊢; omega)
      omega)
    (fun q hq => by
      obtain ⟨x, hx, rfl⟩ := List.mem_map.1 hq
      obtain ⟨n1, o1, l1, g1, V1, ea, a1, a2⟩ := hP.at (hndl_mem.1 hx)
      have hne : n1 ≠ n := by
        rintro rfl
        exact hno ⟨x.toNat, a1, a2, by rw [V1.eq]; exact place_nz _ _ V1.l1, by rw [V1.eq]⟩
      have := bitsOf_mem (S.pgs.set n none) 0 n1 o1 g1 (by rw [List.getElem?_set, if_neg (fun e => hne e.symm)]; exact V1.pg) V1.obl V1.bit
      rw [Nat.zero_add] at this
      rw [V1.eq]
      exact this)
  rw [List.length_map] at h5
  omega
/-- The numbers of a class's pages. -/
def pgN (L : List (Nat × PgS)) (c : Nat) : List Nat := (L.filter fun p => decide ((p.2.cls : Int) = c)).map (·.1)
theorem pgN_len (L : List (Nat × PgS)) (c : Nat) : (pgN L c).length = spPages L c := by unfold pgN spPages; rw [List.length_map]
theorem sheetsOf_nd : ∀ (l : Pgs) (n : Nat), ((sheetsOf l n).map (·.1)).Nodup
  | [], _ => List.nodup_nil
  | none :: l, n => sheetsOf_nd l (n + 1)
  | some g :: l, n => by
    rw [sheetsOf, List.map_cons, List.nodup_cons]
    refine ⟨fun h => ?_, sheetsOf_nd l (n + 1)⟩
    obtain ⟨p, hp, he⟩ := List.mem_map.1 h
    obtain ⟨i, _, h2⟩ := sheetsOf_mem hp
    dsimp only at he
    omega
theorem sheetsOf_in : ∀ (l : Pgs) (n i : Nat) (g : PgS), l[i]? = some (some g) → (n + i, g) ∈ sheetsOf l n
  | [], _, _, _, h => by cases h
  | none :: l, n, 0, _, h => by cases h
  | none :: l, n, i + 1, g, h => by
    rw [show n + (i + 1) = n + 1 + i by omega]
    exact sheetsOf_in l (n + 1) i g (by simpa using h)
  | some g0 :: l, n, 0, g, h => by
    cases h
    simp [sheetsOf]
  | some g0 :: l, n, i + 1, g, h => by
    rw [show n + (i + 1) = n + 1 + i by omega]
    exact List.mem_cons_of_mem _ (sheetsOf_in l (n + 1) i g (by simpa using h))
theorem pgN_nd (pgs : Pgs) (c : Nat) : (pgN (sheetsOf pgs 0) c).Nodup := by
  unfold pgN
  exact List.Nodup.sublist (List.Sublist.map _ List.filter_sublist) (sheetsOf_nd pgs 0)
theorem pgN_mem {pgs : Pgs} {c n : Nat} : n ∈ pgN (sheetsOf pgs 0) c ↔ ∃ g, pgs[n]? = some (some g) ∧ g.cls = c := by
  unfold pgN
  rw [List.mem_map]
  constructor
  · rintro ⟨p, hp, rfl⟩
    obtain ⟨h1, h2⟩ := List.mem_filter.1 hp
    obtain ⟨i, h3, h4⟩ := sheetsOf_mem h1
    rw [Nat.zero_add] at h4
    exact ⟨p.2, by rw [h4]; exact h3, by have := of_decide_eq_true h2; omega⟩
  · rintro ⟨g, h1, h2⟩
    have := sheetsOf_in pgs 0 n g h1
    rw [Nat.zero_add] at this
    exact ⟨(n, g), List.mem_filter.2 ⟨this, decide_eq_true (by dsimp only; omega)⟩, rfl⟩
/-- A class has a page where it has a handle. -/
theorem PoolOk.pgN_at (hP : PoolOk M S) {c : Nat} : n ∈ pgN (sheetsOf S.pgs 0) c ↔ ∃ x : Nat, 1 ≤ x ∧ x ≤ 512 ∧ S.tab.all x ≠ PlaceS.zero ∧ (S.tab.all x).page = (n : Int) ∧ clsP (S.tab.all x) = c := by
  rw [pgN_mem]
  constructor
  · rintro ⟨g, h1, h2⟩
    obtain ⟨x, x1, x2, x3, x4⟩ := hP.has h1
    obtain ⟨n', ob, ln, g', V⟩ := hP.tab.val x x1 x2 x3
    have : n' = n := by rw [V.eq] at x4; dsimp only at x4; omega
    subst this
    have := V.pg
    rw [h1] at this
    cases this
    exact ⟨x, x1, x2, x3, x4, by rw [V.eq, clsP_nat, ← V.cls, h2]⟩
  · rintro ⟨x, x1, x2, x3, x4, x5⟩
    obtain ⟨n', ob, ln, g', V⟩ := hP.tab.val x x1 x2 x3
    have : n' = n := by rw [V.eq] at x4; dsimp only at x4; omega
    subst this
    exact ⟨g', V.pg, by rw [V.cls, ← x5, V.eq, clsP_nat]⟩
theorem full_sum {N m c : Nat} : ∀ (L : List (Nat × PgS)), (L.map (·.1)).Nodup → (∀ p ∈ L, p.2.cls = c → 1 ≤ cnt p.2.set ∧ cnt p.2.set ≤ N) → (∀ p ∈ L, p.2.cls = c → p.1 ≠ m → cnt p.2.set = N) →
    N * spPages L c ≤ objectsOf L c + if m ∈ L.map (·.1) then N - 1 else 0
  | [], _, _, _ => by simp [spPages]
  | p :: L, hn, h1, h2 => by
    have ih := full_sum L (by rw [List.map_cons] at hn; exact (List.nodup_cons.1 hn).2) (fun q hq => h1 q (by simp [hq])) fun q hq => h2 q (by simp [hq])
    have hpl : p.1 ∉ L.map (·.1) := by rw [List.map_cons] at hn; exact (List.nodup_cons.1 hn).1
    have e1 : objectsOf (p :: L) c = (if (p.2.cls : Int) = c then cnt p.2.set else 0) + objectsOf L c := rfl
    have e2 : spPages (p :: L) c = (if (p.2.cls : Int) = c then 1 else 0) + spPages L c := by
      unfold spPages
      rw [List.filter_cons]
      by_cases hc : (p.2.cls : Int) = c
      · rw [if_pos (by simpa using hc), if_pos hc, List.length_cons]; omega
      · rw [if_neg (by simpa using hc), if_neg hc]; omega
    rw [e1, e2]
    by_cases hc : p.2.cls = c
    · have hci : (p.2.cls : Int) = c := by omega
      rw [if_pos hci, if_pos hci, Nat.mul_add, Nat.mul_one]
      have k1 := h1 p (by simp) hc
      by_cases hm : p.1 = m
      · rw [hm] at hpl
        rw [if_neg hpl] at ih
        rw [if_pos (by rw [List.map_cons, hm]; simp)]
        omega
      · have k2 := h2 p (by simp) hc hm
        have : (m ∈ (p :: L).map (·.1)) ↔ m ∈ L.map (·.1) := by
          rw [List.map_cons, List.mem_cons]
          exact ⟨fun h => h.resolve_left fun e => hm e.symm, .inr⟩
        simp only [this]
        omega
    · have hci : ¬ (p.2.cls : Int) = c := by omega
      rw [if_neg hci, if_neg hci, Nat.zero_add, Nat.zero_add]
      refine Nat.le_trans ih ?_
      by_cases hm : m ∈ L.map (·.1)
      · rw [if_pos hm, if_pos (by rw [List.map_cons]; simp at hm ⊢; exact .inr hm)]; omega
      · rw [if_neg hm]; omega
theorem spMany_eq {N c : Nat} (L : List (Nat × PgS)) (h : ∀ p ∈ L, p.2.cls = c → p.2.set.length = N) : 1 ≤ spPages L c → spMany L c = N := by
  suffices hh : ∀ r : List (Nat × PgS), (∀ p ∈ r.reverse, p.2.cls = c → p.2.set.length = N) → 1 ≤ spPages r.reverse c → spMany r.reverse c = N by
    have := hh L.reverse
    rw [List.reverse_reverse] at this
    exact this h
  intro r
  induction r with
  | nil => intro _ h; simp [spPages] at h
  | cons p r ih =>
    intro h1 h2
    rw [List.reverse_cons] at h1 h2 ⊢
    rw [spMany_snoc]
    rw [spPages_snoc] at h2
    by_cases hc : (p.2.cls : Int) = c
    · rw [if_pos hc]
      exact h1 p (by simp) (by omega)
    · rw [if_neg hc] at h2 ⊢
      exact ih (fun q hq => h1 q (by rw [List.mem_append]; exact .inl hq)) h2
theorem PoolOk.many_at (hP : PoolOk M S) {c : Nat} (h : 1 ≤ spPages (sheetsOf S.pgs 0) c) : spMany (sheetsOf S.pgs 0) c = cObjects c :=
  spMany_eq _ (fun p hp hc => by rw [(hP.sheetF hp).1.set, hc]) h
/-- Where something can be spared, a page but one has room. -/
theorem PoolOk.spare_room (hP : PoolOk M S) {c : Nat} (hc : c < 64) (hs : 0 < spareL (sheetsOf S.pgs 0) c) (m : Nat) : ∃ n g, n ≠ m ∧ S.pgs[n]? = some (some g) ∧ g.cls = c ∧ cnt g.set < g.set.length := by
  apply Classical.byContradiction
  intro hno
  have hN := (cObjects_bd hc).1
  have h1 := full_sum (N := cObjects c) (m := m) (c := c) (sheetsOf S.pgs 0) (sheetsOf_nd S.pgs 0) (fun p hp hpc => by
    have h1 := (hP.sheetF hp).1
    have h2 := cnt_le p.2.set
    have h3 := h1.pos
    rw [h1.set, hpc] at h2
    omega) fun p hp hpc hpm => by
      have h1 := (hP.sheetF hp).1
      have h2 := cnt_le p.2.set
      have h4 := (hP.sheet hp).1
      have h5 : ¬ cnt p.2.set < p.2.set.length := fun h => hno ⟨p.1, p.2, hpm, h4, hpc, h⟩
      rw [h1.set, hpc] at h2 h5
      omega
  unfold spareL at hs
  by_cases hp : 1 ≤ spPages (sheetsOf S.pgs 0) c
  · rw [hP.many_at hp] at hs
    have h2 : (objectsOf (sheetsOf S.pgs 0) c + cObjects c - 1) / cObjects c < spPages (sheetsOf S.pgs 0) c := by omega
    rw [Nat.div_lt_iff_lt_mul (by omega)] at h2
    rw [Nat.mul_comm] at h1
    have h3 : (if m ∈ (sheetsOf S.pgs 0).map (·.1) then cObjects c - 1 else 0) ≤ cObjects c - 1 := by split <;> omega
    omega
  · generalize (objectsOf (sheetsOf S.pgs 0) c + spMany (sheetsOf S.pgs 0) c - 1) / spMany (sheetsOf S.pgs 0) c = q at hs
    omega
end
end Go.Proofs.YtheblkofemobdaaGreat

/-
  move: the plain law of one round: all objects of a page moved to others.
-/
namespace Go.Proofs.YtheblkofemobdaaGreat
open Go.RowKit

theorem TabS.ofTo_mem {t : TabS} {page x : Int} : ∀ (k : Nat), x ∈ t.ofTo page k ↔ ∃ h : Nat, x = h ∧ 1 ≤ h ∧ h ≤ k ∧ t.all h ≠ PlaceS.zero ∧ (t.all h).page = page
  | 0 => by
    unfold TabS.ofTo
    constructor
    · intro h; cases h
    · rintro ⟨h, _, h1, h2, _⟩; omega
  | k + 1 => by
    have ih := TabS.ofTo_mem (t := t) (page := page) (x := x) k
    unfold TabS.ofTo
    constructor
    · intro h
      split at h
      · next hc =>
        rcases List.mem_append.1 h with h | h
        · obtain ⟨y, e, h1, h2, h3⟩ := ih.1 h
          exact ⟨y, e, h1, by omega, h3⟩
        · exact ⟨k + 1, List.mem_singleton.1 h, by omega, Nat.le_refl _, hc⟩
      · obtain ⟨y, e, h1, h2, h3⟩ := ih.1 h
        exact ⟨y, e, h1, by omega, h3⟩
    · rintro ⟨y, e, h1, h2, h3⟩
      by_cases hy : y = k + 1
      · subst hy
        rw [if_pos h3, List.mem_append]
        exact .inr (by rw [e]; simp)
      · have := ih.2 ⟨y, e, h1, by omega, h3⟩
        split
        · rw [List.mem_append]; exact .inl this
        · exact this
theorem TabS.ofTo_nd (t : TabS) (page : Int) : ∀ (k : Nat), (t.ofTo page k).Nodup
  | 0 => List.nodup_nil
  | k + 1 => by
    have ih := TabS.ofTo_nd t page k
    unfold TabS.ofTo
    split
    · rw [List.nodup_append]
      refine ⟨ih, by simp, fun a ha b hb => ?_⟩
      obtain ⟨y, e, h1, h2, _⟩ := (TabS.ofTo_mem k).1 ha
      rw [List.mem_singleton.1 hb, e]
      omega
    · exact ih
theorem nd_inj {α : Type} {l : List α} (hn : l.Nodup) {i j : Nat} {x : α} (hij : i < j) (hi : l[i]? = some x) (hj : l[j]? = some x) : False := by
  obtain ⟨h1, e1⟩ := List.getElem?_eq_some_iff.1 hi
  obtain ⟨h2, e2⟩ := List.getElem?_eq_some_iff.1 hj
  exact List.pairwise_iff_getElem.1 hn i j h1 h2 hij (e1.trans e2.symm)
theorem bestB_some {pgs : Pgs} {c n : Nat} {g : PgS} {bs : List Int} (hn : pgs[n]? = some (some g)) (hl : pgs.length ≤ 512) (hc : g.cls = c) (hr : cnt g.set < g.set.length) (hb : (n : Int) ∉ bs) : ∃ m, bestB (bkOf pgs c) bs = some m := by
  cases h : bestB (bkOf pgs c) bs with
  | some m => exact ⟨m, rfl⟩
  | none =>
    have hB : bkOf pgs c n = some (cnt g.set, g.set.length) := by unfold bkOf; rw [hn]; exact if_pos hc
    have h5 := (List.getElem?_eq_some_iff.1 hn).1
    have hop : openB (bkOf pgs c) n := ⟨_, hB, hr⟩
    refine absurd hop ((bestL_none _ _ none h).2 n ?_)
    simp only [bnums, List.mem_filter, List.mem_range, Bool.and_eq_true]
    refine And.intro (by omega) (And.intro (by rw [hB]; rfl) (decide_eq_true hb))
section
variable {M M0 : RamS} {S S0 : PoolS} {Lo : List OE} {m c j : Nat}
structure Rnd (S0 : PoolS) (m c j : Nat) (Lo : List OE) (M : RamS) (S : PoolS) : Prop where
  kept : Kept M S Lo
  same : ∀ h : Nat, (h : Int) ∉ (S0.tab.ofTo m 512).take j → S.tab.all h = S0.tab.all h
  moved : ∀ h : Nat, (h : Int) ∈ (S0.tab.ofTo m 512).take j → S.tab.all h ≠ PlaceS.zero ∧ clsP (S.tab.all h) = c ∧ ∃ n : Nat, n ≠ m ∧ n ∈ pgN (sheetsOf S0.pgs 0) c ∧ (S.tab.all h).page = (n : Int)
theorem Rnd.start (hK : Kept M0 S0 Lo) (m c : Nat) : Rnd S0 m c 0 Lo M0 S0 := ⟨hK, fun _ _ => rfl, fun h hh => by rw [List.take_zero] at hh; cases hh⟩
theorem Rnd.pages (R : Rnd S0 m c j Lo M S) (hP0 : PoolOk M0 S0) {n c' : Nat} (hn : n ≠ m) : n ∈ pgN (sheetsOf S.pgs 0) c' ↔ n ∈ pgN (sheetsOf S0.pgs 0) c' := by
  constructor
  · intro h
    obtain ⟨x, x1, x2, x3, x4, x5⟩ := R.kept.ok.pgN_at.1 h
    by_cases hx : (x : Int) ∈ (S0.tab.ofTo m 512).take j
    · obtain ⟨_, y1, n', y2, y3, y4⟩ := R.moved x hx
      have e1 : n' = n := by rw [x4] at y4; omega
      have e2 : c = c' := by rw [← x5, ← y1]
      rw [← e1, ← e2]
      exact y3
    · rw [R.same x hx] at x3 x4 x5
      exact hP0.pgN_at.2 ⟨x, x1, x2, x3, x4, x5⟩
  · intro h
    obtain ⟨x, x1, x2, x3, x4, x5⟩ := hP0.pgN_at.1 h
    have hx : (x : Int) ∉ (S0.tab.ofTo m 512).take j := fun hx => by
      obtain ⟨y, e, _, _, _, y4⟩ := (TabS.ofTo_mem 512).1 (List.mem_of_mem_take hx)
      have : x = y := by omega
      rw [← this, x4] at y4
      omega
    rw [← R.same x hx] at x3 x4 x5
    exact R.kept.ok.pgN_at.2 ⟨x, x1, x2, x3, x4, x5⟩
theorem cls_one {pgs : Pgs} {n c c' : Nat} (h : n ∈ pgN (sheetsOf pgs 0) c) (h' : n ∈ pgN (sheetsOf pgs 0) c') : c' = c := by
  obtain ⟨g, h1, h2⟩ := pgN_mem.1 h
  obtain ⟨g', h3, h4⟩ := pgN_mem.1 h'
  rw [h1] at h3
  cases h3
  rw [← h2, ← h4]
theorem pages_len {pgs pgs' : Pgs} {c : Nat} (h : ∀ n, n ∈ pgN (sheetsOf pgs 0) c ↔ n ∈ pgN (sheetsOf pgs' 0) c) : spPages (sheetsOf pgs 0) c = spPages (sheetsOf pgs' 0) c := by
  rw [← pgN_len, ← pgN_len]
  exact ((List.perm_ext_iff_of_nodup (pgN_nd _ _) (pgN_nd _ _)).2 h).length_eq
theorem Kept.objs {M' : RamS} {S' : PoolS} (h : Kept M S Lo) (h' : Kept M' S' Lo) (c : Nat) : objectsOf (sheetsOf S.pgs 0) (c : Int) = objectsOf (sheetsOf S'.pgs 0) (c : Int) := by
  rw [h.objects, h'.objects]
theorem spare_eq {M' : RamS} {S' : PoolS} (h : Kept M S Lo) (h' : Kept M' S' Lo) {c : Nat} (he : spPages (sheetsOf S.pgs 0) c = spPages (sheetsOf S'.pgs 0) c) : spareL (sheetsOf S.pgs 0) c = spareL (sheetsOf S'.pgs 0) c := by
  unfold spareL
  rw [he, h.objs h']
  by_cases hp : 1 ≤ spPages (sheetsOf S'.pgs 0) c
  · rw [h'.ok.many_at hp, h.ok.many_at (by omega)]
  · have e : ∀ (L : List (Nat × PgS)), spPages L c = 0 → spMany L c = 1 := fun L => by
      intro h0
      rcases spMany_from c L 1 with h1 | ⟨p, hp, h1⟩
      · exact h1
      · unfold spPages at h0
        have h0 := List.eq_nil_of_length_eq_zero h0
        have h2 : ∀ q ∈ L, ¬ (q.2.cls : Int) = c := fun q hq hc => by
          have : q ∈ L.filter fun p => decide ((p.2.cls : Int) = c) := List.mem_filter.2 ⟨hq, decide_eq_true hc⟩
          rw [h0] at this
          cases this
        clear h0 h1 hp p
        have : ∀ (l : List (Nat × PgS)), (∀ q ∈ l, ¬ (q.2.cls : Int) = c) → ∀ m, l.foldl (fun m p => if (p.2.cls : Int) = c then p.2.set.length else m) m = m := by
          intro l
          induction l with
          | nil => intro _ m; rfl
          | cons q l ih => intro hl m; rw [List.foldl_cons, if_neg (hl q (by simp))]; exact ih (fun q' hq' => hl q' (by simp [hq'])) m
        exact this L h2 1
    rw [e _ (by omega), e _ (by omega)]
theorem Rnd.step (R : Rnd S0 m c j Lo M S) (hK0 : Kept M0 S0 Lo) (hc : c < 64) (hm : m ∈ pgN (sheetsOf S0.pgs 0) c) (hs : 0 < spareL (sheetsOf S0.pgs 0) c) {x : Int} (hx : (S0.tab.ofTo m 512)[j]? = some x) : ∃ q, S.shift1 M x = (true, q) ∧ Rnd S0 m c (j + 1) Lo q.1 q.2 := by
  obtain ⟨h, rfl, x1, x2, x3, x4⟩ := (TabS.ofTo_mem 512).1 (List.mem_of_getElem? hx)
  have hnd := S0.tab.ofTo_nd m 512
  have hxn : (h : Int) ∉ (S0.tab.ofTo m 512).take j := fun hh => by
    obtain ⟨i, hi⟩ := List.getElem?_of_mem hh
    rw [List.getElem?_take] at hi
    split at hi
    · next hij =>
      exact nd_inj hnd hij hi hx
    · cases hi
  have hxe := R.same h hxn
  obtain ⟨gm, hgm, hgc⟩ := pgN_mem.1 hm
  obtain ⟨n0, ob0, ln0, g0, V0⟩ := hK0.ok.tab.val h x1 x2 x3
  have hn0 : n0 = m := by rw [V0.eq] at x4; dsimp only at x4; omega
  subst hn0
  have := V0.pg
  rw [hgm] at this
  cases this
  have hcl : clsP (S0.tab.all h) = c := by rw [V0.eq, clsP_nat, ← V0.cls, hgc]
  have hP := R.kept.ok
  have hm' : n0 ∈ pgN (sheetsOf S.pgs 0) c := hP.pgN_at.2 ⟨h, x1, x2, by rw [hxe]; exact x3, by rw [hxe]; exact x4, by rw [hxe]; exact hcl⟩
  have hpe : spPages (sheetsOf S.pgs 0) c = spPages (sheetsOf S0.pgs 0) c := pages_len fun n => by
    by_cases e : n = n0
    · subst e; exact ⟨fun _ => hm, fun _ => hm'⟩
    · exact R.pages hK0.ok e
  have hs2 : 0 < spareL (sheetsOf S.pgs 0) c := by rw [spare_eq R.kept hK0 hpe]; exact hs
  obtain ⟨n, g, hne, hg, hgc2, hlt⟩ := hP.spare_room hc hs2 n0
  obtain ⟨m', hb⟩ := bestB_some hg hP.len hgc2 hlt (bs := [(n0 : Int)]) (by simp; omega)
  have hin : S.tab.inb (h : Int) = true := inb_nat x1 x2 (by rw [hxe]; exact x3)
  have hb2 : shiftTo S (h : Int) = some m' := by
    unfold shiftTo
    rw [Int.toNat_natCast, hxe, hcl, x4, hP.bks c hc]
    exact hb
  obtain ⟨n1, ob1, ln1, g1, g2, k1, L1, V1, hg2, hmn, hm4, hI, hc2, hbb, hgo, _, e0, F⟩ := shift_law hP hin hb2
  refine ⟨_, by rw [e0], ?_⟩
  rw [e0] at F
  dsimp only at F
  have V1e := V1.eq
  rw [Int.toNat_natCast, hxe, V0.eq] at V1e
  have hn1 : n1 = n0 := by have := congrArg PlaceS.page V1e; dsimp only at this; omega
  subst hn1
  have hc3 : g1.cls = c := by
    have := V1.pg
    obtain ⟨g', h1, h2⟩ := pgN_mem.1 hm'
    rw [this] at h1
    cases h1
    exact h2
  have hmp : m' ∈ pgN (sheetsOf S0.pgs 0) c := (R.pages hK0.ok hmn).1 (pgN_mem.2 ⟨g2, hg2, by rw [hc2, hc3]⟩)
  obtain ⟨kp, hkp⟩ := F.place
  rw [Int.toNat_natCast] at hkp
  have htk : (S0.tab.ofTo n1 512).take (j + 1) = (S0.tab.ofTo n1 512).take j ++ [(h : Int)] := by rw [List.take_add_one, hx]; rfl
  refine ⟨R.kept.shift F, fun y hy => ?_, fun y hy => ?_⟩
  · rw [htk, List.mem_append] at hy
    have hyh : (y : Int) ≠ h := fun e => hy (.inr (by rw [e]; simp))
    rw [F.all y hyh]
    exact R.same y fun hh => hy (.inl hh)
  · by_cases e : y = h
    · subst e
      rw [hkp, hxe]
      have hln := V0.l1
      refine ⟨?_, ?_, m', hmn, hmp, rfl⟩
      · rw [V0.eq]; exact place_nz _ _ hln
      · rw [V0.eq]; rw [clsP_nat, ← V0.cls, hgc]
    · rw [htk, List.mem_append] at hy
      have hy2 : (y : Int) ∈ (S0.tab.ofTo n1 512).take j := hy.resolve_right fun hh => e (by have := List.mem_singleton.1 hh; omega)
      rw [F.all y (by omega)]
      exact R.moved y hy2
theorem Rnd.done (R : Rnd S0 m c (S0.tab.ofTo m 512).length Lo M S) (hK0 : Kept M0 S0 Lo) (hm : m ∈ pgN (sheetsOf S0.pgs 0) c) : spPages (sheetsOf S.pgs 0) c + 1 = spPages (sheetsOf S0.pgs 0) c ∧ ∀ c' : Nat, c' ≠ c → spPages (sheetsOf S.pgs 0) c' = spPages (sheetsOf S0.pgs 0) c' := by
  have hno : ∀ c', m ∉ pgN (sheetsOf S.pgs 0) c' := fun c' h => by
    obtain ⟨x, x1, x2, x3, x4, x5⟩ := R.kept.ok.pgN_at.1 h
    by_cases hx : (x : Int) ∈ (S0.tab.ofTo m 512).take (S0.tab.ofTo m 512).length
    · obtain ⟨_, _, n', y2, _, y4⟩ := R.moved x hx
      rw [x4] at y4
      omega
    · have hs := R.same x hx
      rw [List.take_length] at hx
      rw [hs] at x3 x4
      exact hx ((TabS.ofTo_mem 512).2 ⟨x, rfl, x1, x2, x3, x4⟩)
  constructor
  · rw [← pgN_len, ← pgN_len]
    have h1 : (pgN (sheetsOf S.pgs 0) c ++ [m]).Perm (pgN (sheetsOf S0.pgs 0) c) := by
      refine (List.perm_ext_iff_of_nodup ?_ (pgN_nd _ _)).2 fun n => ?_
      · rw [List.nodup_append]
        refine ⟨pgN_nd _ _, by simp, fun a ha b hb => ?_⟩
        rw [List.mem_singleton.1 hb]
        rintro rfl
        exact hno _ ha
      · rw [List.mem_append, List.mem_singleton]
        by_cases e : n = m
        · subst e; exact ⟨fun _ => hm, fun _ => .inr rfl⟩
        · rw [R.pages hK0.ok e]
          exact ⟨fun h => h.resolve_right e, .inl⟩
    have := h1.length_eq
    rw [List.length_append] at this
    exact this
  · intro c' hc
    refine pages_len fun n => ?_
    by_cases e : n = m
    · subst e
      exact ⟨fun h => absurd h (hno c'), fun h => absurd (cls_one hm h) hc⟩
    · exact R.pages hK0.ok e
end
end Go.Proofs.YtheblkofemobdaaGreat

/-
  Package move: one.
-/
namespace Go.Proofs.YtheblkofemobdaaGreat
open Go.RowKit

theorem least_ex {P : Nat → Prop} (h : ∃ n, P n) : ∃ n, P n ∧ ∀ k, P k → n ≤ k := by
  apply Classical.byContradiction
  intro hno
  have key : ∀ n, ∀ k, k < n → ¬ P k := by
    intro n
    induction n with
    | zero => intro k hk; omega
    | succ n ih =>
      intro k hk hp
      by_cases e : k = n
      · subst e
        exact hno ⟨k, hp, fun j hj => Nat.le_of_not_lt fun hlt => ih j hlt hj⟩
      · exact ih k (by omega) hp
  obtain ⟨n, hn⟩ := h
  exact key (n + 1) n (by omega) hn
theorem least_spec {P : Nat → Prop} (h : ∃ n, P n) : P (Classical.epsilon fun n => P n ∧ ∀ k, P k → n ≤ k) ∧ ∀ k, P k → (Classical.epsilon fun n => P n ∧ ∀ k, P k → n ≤ k) ≤ k :=
  Classical.epsilon_spec (least_ex h)
theorem spareL_bd {M : RamS} {S : PoolS} (hP : PoolOk M S) (c : Int) : -300000 ≤ spareL (sheetsOf S.pgs 0) c ∧ spareL (sheetsOf S.pgs 0) c ≤ 1000 := by
  have h1 := spPages_le (sheetsOf S.pgs 0) c
  have h2 := sheetsOf_le S.pgs 0
  have h3 := hP.len
  have h4 : objectsOf (sheetsOf S.pgs 0) c ≤ 256 * (sheetsOf S.pgs 0).length := objectsOf_le fun p hp => by
    have h1 := (hP.sheetF hp).1
    rw [h1.set]
    exact (cObjects_bd h1.cls).2
  obtain ⟨h5, h6⟩ := spMany_bd (L := sheetsOf S.pgs 0) (fun p hp => by
    have h1 := (hP.sheetF hp).1
    rw [h1.set]
    exact cObjects_bd h1.cls) c
  have h7 : (objectsOf (sheetsOf S.pgs 0) c + spMany (sheetsOf S.pgs 0) c - 1) / spMany (sheetsOf S.pgs 0) c ≤ objectsOf (sheetsOf S.pgs 0) c + spMany (sheetsOf S.pgs 0) c - 1 := Nat.div_le_self _ _
  unfold spareL
  generalize (objectsOf (sheetsOf S.pgs 0) c + spMany (sheetsOf S.pgs 0) c - 1) / spMany (sheetsOf S.pgs 0) c = q at h7
  omega
def OneOk (S : PoolS) (Lo : List OE) (c : Nat) (q : RamS × PoolS) : Prop := Kept q.1 q.2 Lo ∧ ∀ c' : Nat, c' ≠ c → spPages (sheetsOf q.2.pgs 0) c' = spPages (sheetsOf S.pgs 0) c'
section
variable {e : Env} {w : World} {R A : List HP} {b tb rb : Nat} {S : PoolS} {M : RamS}
def OneP (e : Env) (b tb rb : Nat) (R : List HP) (S : PoolS) (Lo : List OE) (c : Nat) (w : World) (n : Nat) : Prop := ∃ q : RamS × PoolS, OneOk S Lo c q ∧ spPages (sheetsOf q.2.pgs 0) c = n ∧ Holds e w (poolH b tb rb q.2 :: ramH rb q.1 :: R)
theorem poOf (H : Holds e w (poolH b tb rb S :: R)) (m : Int) : Calls Tryz.prog 101 #[.pointer (some ⟨tb, 0, none⟩), .int .i64 m] w
    (RetEx e (fun v : Value => v) (fun v => row v 3 1 (S.tab.ofTo m 512).length (ints (S.tab.ofTo m 512)) :: poolH b tb rb S :: R)) := by
  obtain ⟨a, c, bs, E, hE, hb, h⟩ := pool_open H
  refine (hof_ok h.swap m).mono ?_
  rintro en w1 ⟨v, r1, r2⟩
  exact ⟨v, r1, (pool_close hE hb (r2.imp fun _ => Sat.q5).swap).swap⟩
set_option maxRecDepth 100000 in
set_option maxHeartbeats 2000000 in
theorem mOne {Lo : List OE} (hK : Kept M S Lo) {c : Nat} (hc : c < 64) (H : Holds e w (poolH b tb rb S :: ramH rb M :: R)) :
    Calls Tryz.prog 69 #[.pointer (some ⟨b, 0, none⟩), .int .i64 c] w (RetEx e (fun _ : RamS × PoolS => .tuple #[]) (fun q => pur (OneOk S Lo c q ∧ spareL (sheetsOf q.2.pgs 0) c ≤ 0) :: poolH b tb rb q.2 :: ramH rb q.1 :: R)) := by
  have CSP := Lib.hid fun (w' : World) (M' : RamS) (S' : PoolS) (Y : List HP) (hK' : Kept M' S' Lo) (h : Holds e w' (poolH b tb rb S' :: Y)) => mSpare h hK'.ok (c : Int)
  have CWO := Lib.hid fun (w' : World) (M' : RamS) (S' : PoolS) (Y : List HP) (hK' : Kept M' S' Lo) (h : Holds e w' (poolH b tb rb S' :: Y)) => mWorst h hK'.ok hc
  have H0 : Hid (OneP e b tb rb R S Lo c w (spPages (sheetsOf S.pgs 0) c)) := Lib.hid ⟨(M, S), ⟨hK, fun _ _ => rfl⟩, rfl, H⟩
  clear H hK
  go_enter Tryz.func69, Tryz.ntmps69
  go_wp2_with fail
  go_loopw [] (fun wr => ∃ n, OneP e b tb rb R S Lo c wr n) (fun wr => Classical.epsilon fun n => OneP e b tb rb R S Lo c wr n ∧ ∀ k, OneP e b tb rb R S Lo c wr k → n ≤ k)
  case atStart => exact ⟨_, H0.out⟩
  case round =>
    obtain ⟨hq, hmin⟩ := least_spec hrel
    obtain ⟨n, hn⟩ : ∃ n, (Classical.epsilon fun n => OneP e b tb rb R S Lo c wr n ∧ ∀ k, OneP e b tb rb R S Lo c wr k → n ≤ k) = n := ⟨_, rfl⟩
    rw [hn] at hq hmin ⊢
    clear hn hrel H0
    obtain ⟨⟨M1, S1⟩, hOO, hpn, HX⟩ := hq
    dsimp only at hpn HX
    have HOO := Lib.hid hOO
    have hK := hOO.1
    dsimp only at hK
    have HK := Lib.hid hK
    have HPN := Lib.hid hpn
    clear hOO hpn
    by_cases hs : 0 < spareL (sheetsOf S1.pgs 0) c
    · have HS := Lib.hid hs
      have hsp := spareL_bd hK.ok c
      have CS1 := Lib.hid (CSP.out _ _ _ _ hK HX)
      have hroom := Lib.hid (hK.ok.spare_room hc hs)
      clear HX hK
      generalize spareL (sheetsOf S1.pgs 0) c = sp at CS1 hs hsp
      go_wp2_with fail
      refine CS1.out.mono ?_
      rintro en w1 ⟨rfl, H1⟩
      clear CS1
      go_wp2_with fail
      refine (CWO.out _ _ _ _ HK.out H1).mono ?_
      rintro en w2 ⟨⟨pn, ok, ⟨v0, v1, v2⟩, ⟨v3, v4, v5⟩⟩, rfl, H2⟩
      have hwo := H2.purE
      have H3 : Holds e w2 (poolH b tb rb S1 :: ramH rb M1 :: R) := H2.drop
      clear H1 H2
      unfold WQ.val
      dsimp only
      cases ok with
      | false =>
        obtain ⟨n', g', _, h2, h3, h4⟩ := hroom.out 0
        have := sheetsOf_in S1.pgs 0 n' g' h2
        exact absurd h4 (hwo _ this h3)
      | true =>
        obtain ⟨g', h1, h2⟩ := hwo
        have hmem : Hid (pn ∈ pgN (sheetsOf S1.pgs 0) c) := by
          obtain ⟨h3, _⟩ := HK.out.ok.sheet h1
          exact Lib.hid (pgN_mem.2 ⟨g', h3, h2⟩)
        have H4 := H3.alloc (.cells #[.int .i64 pn, .int .i64 v0, .int .i64 v1, .int .i64 v2, .slice v3 v4 v5] 45)
        obtain ⟨bx, hbx⟩ : ∃ bx, w2.heap.size = bx := ⟨_, rfl⟩
        rw [hbx] at H4
        clear hroom h1 h2 H3
        have H5 := H4.swap
        have HKC : Hid (∀ w' Y, Holds e w' (poolH b tb rb S1 :: pts bx (.cells #[.int .i64 pn, .int .i64 v0, .int .i64 v1, .int .i64 v2, .slice v3 v4 v5] 45 (0, 0)) :: Y) → w'.cell? ⟨b, 0, none⟩ = some (.pointer (some ⟨tb, 0, none⟩)) ∧ w'.cell? ⟨bx, 0, none⟩ = some (.int .i64 pn)) := Lib.hid fun w' Y h => ⟨(pool_tab h).1, h.swap.cells 0⟩
        have CO := Lib.hid fun (w' : World) (Y : List HP) (h : Holds e w' (poolH b tb rb S1 :: Y)) => poOf h (pn : Int)
        clear H4
        obtain ⟨hs0, hhs⟩ : ∃ hs0, S1.tab.ofTo pn 512 = hs0 := ⟨_, rfl⟩
        rw [hhs] at CO
        have HHS := Lib.hid hhs
        have hlen : hs0.length ≤ 512 := by rw [← hhs]; exact TabS.ofTo_len _ _ _
        clear hhs
        go_wp2_with fail
        refine code_at H5 fun w3 H6 => ?_
        clear H5
        obtain ⟨j0, j1⟩ := HKC.out _ _ H6
        have HD := H6.drawn (w3.drawn + 1)
        first | go_region_held3 (fun w' => w'.cell? ⟨b, 0, none⟩ = some (.pointer (some ⟨tb, 0, none⟩)) ∧ w'.cell? ⟨bx, 0, none⟩ = some (.int .i64 pn))
          (first | exact HKC.out _ _ (by assumption) | exact HKC.out _ _ (Holds.drop (by assumption)))
          (first | (go_at_call 101; refine (CO.out _ _ (by assumption)).mono ?_; rintro e w4 ⟨vo, rfl, HN⟩; obtain ⟨av, cv, rfl⟩ := row_shape HN)) | fail
        all_goals
          have HR0 : Hid (Rnd S1 pn c 0 Lo M1 S1) := Lib.hid (Rnd.start HK.out pn c)
          have H7 : Holds e w4 (row (.slice av hs0.length cv) 3 1 hs0.length (ints hs0) :: poolH b tb rb S1 :: ramH rb M1 :: R) := HN.d2
          clear HN HD H6 j0 j1 CO HKC
          go_wp2_with fail
          go_loopw [29] (fun i wr => ∃ (j : Nat) (q : RamS × PoolS), j ≤ hs0.length ∧ i = .int .i64 (j : Nat) ∧ Hid (Rnd S1 pn c j Lo q.1 q.2) ∧ Holds e wr (row (.slice av hs0.length cv) 3 1 hs0.length (ints hs0) :: poolH b tb rb q.2 :: ramH rb q.1 :: R)) (fun i _ => hs0.length - (intOf i).toNat)
          case atStart => exact ⟨0, (M1, S1), by omega, rfl, HR0, H7⟩
          case round =>
            obtain ⟨j, ⟨M2, S2⟩, hj, rfl, HRN, HY⟩ := hrel
            dsimp only at HRN HY
            clear H7 HR0
            by_cases hlt : j < hs0.length
            · obtain ⟨x, hx⟩ : ∃ x, hs0[j]? = some x := ⟨_, List.getElem?_eq_getElem hlt⟩
              obtain ⟨g0, o0, rfl, hrd⟩ := (row.reads HY).at (by omega)
              have q0 : wr.cell? ⟨g0, o0 + j, none⟩ = some (.int .i64 x) := hrd j _ (ints_getS hx)
              obtain ⟨q, e0, hR2⟩ := HRN.out.step HK.out hc hmem.out HS.out (by rw [HHS.out]; exact hx)
              have CSH := poShift (HY.imp fun _ => Sat.q2) HRN.out.kept.ok x
              rw [e0] at CSH
              dsimp only at CSH
              have CSH := Lib.hid CSH
              have HR2 := Lib.hid hR2
              clear e0 hR2 hrd hx HY HRN
              go_wp2_with fail
              refine CSH.out.mono ?_
              rintro en w6 ⟨rfl, H8⟩
              clear CSH
              go_wp2_with fail
              go_roundw
              case rel => exact ⟨j + 1, q, by omega, by go_num, HR2, H8.p2⟩
              case measure => simp [intOf]; omega
            · obtain rfl : j = hs0.length := by omega
              have hR3 : Rnd S1 pn c (S1.tab.ofTo pn 512).length Lo M2 S2 := by rw [HHS.out]; exact HRN.out
              obtain ⟨hd1, hd2⟩ := hR3.done HK.out hmem.out
              have hP2 : OneP e b tb rb R S Lo c wr (n - 1) := ⟨(M2, S2), ⟨hR3.kept, fun c' hc' => (hd2 c' hc').trans (HOO.out.2 c' hc')⟩, by have := HPN.out; dsimp only; omega, HY.drop⟩
              have hn1 : 1 ≤ n := by have := HPN.out; omega
              have hmu := (least_spec ⟨_, hP2⟩).2 _ hP2
              have HPP := Lib.hid hP2
              have HMU := Lib.hid hmu
              clear HY hd1 hd2 hR3 hP2 hmu hmin
              go_wp2_with fail
              go_roundw
              case rel => exact ⟨n - 1, HPP.out⟩
              case measure => exact Nat.lt_of_le_of_lt HMU.out (by omega)
    · have hsp := spareL_bd hK.ok c
      have CS1 := Lib.hid (CSP.out _ _ _ _ hK HX)
      have HSF : Hid (spareL (sheetsOf S1.pgs 0) c ≤ 0) := Lib.hid (by omega)
      clear HX hK
      generalize spareL (sheetsOf S1.pgs 0) c = sp at CS1 hs hsp
      have hd1 : decide ((0 : Int) < sp) = false := decide_eq_false hs
      go_wp2_with fail
      refine CS1.out.mono ?_
      rintro en w1 ⟨rfl, H1⟩
      clear CS1
      go_wp2_with fail
      go_end0
      exact ⟨(M1, S1), rfl, Holds.mkPur ⟨HOO.out, HSF.out⟩ H1⟩
end
end Go.Proofs.YtheblkofemobdaaGreat

/-
  Package move: Compact, Gain.
-/
namespace Go.Proofs.YtheblkofemobdaaGreat
open Go.RowKit

def CompOk (Lo : List OE) (k : Nat) (q : RamS × PoolS) : Prop := Kept q.1 q.2 Lo ∧ ∀ c : Nat, c < k → spareL (sheetsOf q.2.pgs 0) c ≤ 0
theorem CompOk.step {Lo : List OE} {k : Nat} {q q' : RamS × PoolS} (h : CompOk Lo k q) (h1 : OneOk q.2 Lo k q') (h2 : spareL (sheetsOf q'.2.pgs 0) k ≤ 0) : CompOk Lo (k + 1) q' := by
  refine ⟨h1.1, fun c hc => ?_⟩
  by_cases e : c = k
  · subst e; exact h2
  · rw [spare_eq h1.1 h.1 (h1.2 c e)]
    exact h.2 c (by omega)
def gainTo (L : List (Nat × PgS)) : Nat → Int
  | 0 => 0
  | k + 1 => gainTo L k + spareL L k * (cFrames k : Int)
section
variable {e : Env} {w : World} {R A : List HP} {b tb rb : Nat} {S : PoolS} {M : RamS}
theorem count96 {M : RamS} {S : PoolS} (hP : PoolOk M S) : M.fr.count [3] ≤ 96 := Nat.le_trans (List.length_filter_le _ _) hP.pgs.fr.n96
set_option maxRecDepth 100000 in
set_option maxHeartbeats 2000000 in
theorem mCompact {Lo : List OE} (hK : Kept M S Lo) (H : Holds e w (poolH b tb rb S :: ramH rb M :: R)) :
    Calls Tryz.prog 35 #[.pointer (some ⟨b, 0, none⟩), .slice none 0 0] w (RetEx e (fun q : RamS × PoolS => .int .i64 ((M.fr.count [3] : Int) - (q.1.fr.count [3] : Int))) (fun q => pur (CompOk Lo 64 q) :: poolH b tb rb q.2 :: ramH rb q.1 :: R)) := by
  have CF := Lib.hid fun (w' : World) (M' : RamS) (S' : PoolS) (Y : List HP) (hK' : Kept M' S' Lo) (h : Holds e w' (poolH b tb rb S' :: Y)) => framesAny hK'.ok h
  have CT := Lib.hid fun (w' : World) (Y : List HP) (h : Holds e w' Y) => mTold h
  have CO := Lib.hid fun (w' : World) (M' : RamS) (S' : PoolS) (k : Nat) (Y : List HP) (hk : k < 64) (hK' : Kept M' S' Lo) (h : Holds e w' (poolH b tb rb S' :: ramH rb M' :: Y)) => mOne hK' hk h
  have H96 := Lib.hid fun (M' : RamS) (S' : PoolS) (hK' : Kept M' S' Lo) => count96 hK'.ok
  have h96 := H96.out _ _ hK
  have H0 : Hid (CompOk Lo 0 (M, S)) := Lib.hid ⟨hK, fun c hc => by omega⟩
  have CF1 := Lib.hid (CF.out _ _ _ _ hK H)
  clear H hK
  generalize M.fr.count [3] = c0 at *
  go_enter Tryz.func35, Tryz.ntmps35
  go_wp2_with fail
  refine CF1.out.mono ?_
  rintro en w1 ⟨rfl, H1⟩
  clear CF1
  go_wp2_with fail
  refine (CT.out _ _ H1).mono ?_
  rintro en w2 ⟨v, rfl, H2⟩
  obtain ⟨av, cv, rfl⟩ := row_shape H2
  clear CT H1
  go_wp2_with fail
  go_loopw [13] (fun i wr => ∃ (k : Nat) (q : RamS × PoolS), k ≤ 64 ∧ i = .int .i64 (k : Nat) ∧ Hid (CompOk Lo k q) ∧ Holds e wr (row (.slice av 64 cv) 3 1 64 (ints (iota 64)) :: poolH b tb rb q.2 :: ramH rb q.1 :: R)) (fun i _ => 64 - (intOf i).toNat)
  case atStart => exact ⟨0, (M, S), by omega, rfl, H0, H2⟩
  case round =>
    obtain ⟨k, ⟨M1, S1⟩, hk, rfl, HC, HX⟩ := hrel
    dsimp only at HC HX
    clear H2 H0
    by_cases hlt : k < 64
    · obtain ⟨g0, o0, rfl, hrd⟩ := (row.reads HX).at (by omega)
      have q0 : wr.cell? ⟨g0, o0 + k, none⟩ = some (.int .i64 k) := hrd k _ (ints_getS (iota_get hlt))
      have CO1 := Lib.hid (CO.out _ _ _ k _ hlt HC.out.1 (HX.imp fun _ => Sat.q2))
      clear hrd HX
      go_wp2_with fail
      refine CO1.out.mono ?_
      rintro en w4 ⟨q', rfl, H4⟩
      have hpo := H4.purE
      have HC2 : Hid (CompOk Lo (k + 1) q') := Lib.hid (HC.out.step hpo.1 hpo.2)
      have H5 := Lib.hid ((H4.drop).p2)
      clear CO1 H4 hpo
      go_wp2_with fail
      go_roundw
      case rel => exact ⟨k + 1, q', by omega, by go_num, HC2, H5.out⟩
      case measure => simp [intOf]; omega
    · obtain rfl : k = 64 := by omega
      have CF2 := Lib.hid (CF.out _ _ _ _ HC.out.1 HX.drop)
      have h962 := H96.out _ _ HC.out.1
      clear HX
      dsimp only at CF2
      generalize hc1 : M1.fr.count [3] = c1 at *
      go_wp2_with fail
      refine CF2.out.mono ?_
      rintro en w5 ⟨rfl, H6⟩
      clear CF2
      go_wp2_with fail
      go_ret
      exact ⟨(M1, S1), by dsimp only; rw [hc1]; go_num, Holds.mkPur HC.out H6⟩
theorem gainTo_bd {M : RamS} {S : PoolS} (hP : PoolOk M S) : ∀ k : Nat, -(1200000 * (k : Int)) ≤ gainTo (sheetsOf S.pgs 0) k ∧ gainTo (sheetsOf S.pgs 0) k ≤ 1200000 * (k : Int)
  | 0 => by unfold gainTo; omega
  | k + 1 => by
    have ih := gainTo_bd hP k
    obtain ⟨h1, h2⟩ := spareL_bd hP (k : Int)
    obtain ⟨h3, h4⟩ := cFrames_bd k
    unfold gainTo
    generalize spareL (sheetsOf S.pgs 0) (k : Int) = s at *
    generalize cFrames k = f at *
    have h5 : -1200000 ≤ s * (f : Int) ∧ s * (f : Int) ≤ 4000 := by
      obtain rfl | rfl | rfl | rfl : f = 1 ∨ f = 2 ∨ f = 3 ∨ f = 4 := by omega
      all_goals omega
    omega
set_option maxRecDepth 100000 in
set_option maxHeartbeats 2000000 in
theorem mGain {Lo : List OE} (hK : Kept M S Lo) (H : Holds e w (poolH b tb rb S :: R)) :
    Calls Tryz.prog 67 #[.pointer (some ⟨b, 0, none⟩), .slice none 0 0] w (Ret e (.int .i64 (gainTo (sheetsOf S.pgs 0) 64)) (poolH b tb rb S :: R)) := by
  have CT := Lib.hid fun (w' : World) (Y : List HP) (h : Holds e w' Y) => mTold h
  have CS := Lib.hid fun (w' : World) (k : Nat) (Y : List HP) (h : Holds e w' (poolH b tb rb S :: Y)) => mSpare h hK.ok (k : Int)
  have CC := Lib.hid fun (w' : World) (k : Nat) (Y : List HP) (hk : k < 64) (h : Holds e w' Y) => retQ (clsFrames (w := w') k hk) h
  have HB := Lib.hid fun k => gainTo_bd hK.ok k
  have HSB := Lib.hid fun k : Nat => spareL_bd hK.ok (k : Int)
  obtain ⟨L, hL⟩ : ∃ L, sheetsOf S.pgs 0 = L := ⟨_, rfl⟩
  rw [hL] at CS HB HSB ⊢
  clear hL hK
  go_enter Tryz.func67, Tryz.ntmps67
  go_wp2_with fail
  refine (CT.out _ _ H).mono ?_
  rintro en w2 ⟨v, rfl, H2⟩
  obtain ⟨av, cv, rfl⟩ := row_shape H2
  clear CT H
  go_wp2_with fail
  go_loopw [5, 11] (fun y i wr => ∃ k : Nat, k ≤ 64 ∧ i = .int .i64 (k : Nat) ∧ y = .int .i64 (gainTo L k) ∧ Holds e wr (row (.slice av 64 cv) 3 1 64 (ints (iota 64)) :: poolH b tb rb S :: R)) (fun _ i _ => 64 - (intOf i).toNat)
  case atStart => exact ⟨0, by omega, rfl, rfl, H2⟩
  case round =>
    obtain ⟨k, hk, rfl, rfl, HX⟩ := hrel
    clear H2
    by_cases hlt : k < 64
    · obtain ⟨g0, o0, rfl, hrd⟩ := (row.reads HX).at (by omega)
      have q0 : wr.cell? ⟨g0, o0 + k, none⟩ = some (.int .i64 k) := hrd k _ (ints_getS (iota_get hlt))
      have CS1 := Lib.hid (CS.out _ k _ HX.swap)
      obtain ⟨b1, b2⟩ := HB.out k
      obtain ⟨b3, b4⟩ := HSB.out k
      obtain ⟨b5, b6⟩ := cFrames_bd k
      have HG : Hid (gainTo L (k + 1) = gainTo L k + spareL L k * (cFrames k : Int)) := Lib.hid rfl
      have CC1 := Lib.hid fun w' Y h => CC.out w' k Y hlt h
      clear hrd HX
      generalize spareL L k = s at *
      generalize cFrames k = f at *
      generalize gainTo L k = gk at *
      obtain ⟨sf, hsf⟩ : ∃ sf, s * (f : Int) = sf := ⟨_, rfl⟩
      have h5 : -1200000 ≤ sf ∧ sf ≤ 4000 := by
        rw [← hsf]
        obtain rfl | rfl | rfl | rfl : f = 1 ∨ f = 2 ∨ f = 3 ∨ f = 4 := by omega
        all_goals omega
      rw [hsf] at HG
      go_wp2_with fail
      refine CS1.out.mono ?_
      rintro en w4 ⟨rfl, H4⟩
      clear CS1
      go_wp2_with fail
      refine (CC1.out _ _ H4).mono ?_
      rintro en w5 ⟨rfl, H5⟩
      clear H4
      go_wp2_with fail
      go_roundw
      case rel => exact ⟨k + 1, by omega, by go_num, by rw [HG.out], H5.swap⟩
      case measure => simp [intOf]; omega
    · obtain rfl : k = 64 := by omega
      go_wp2_with fail
      go_ret
      exact ⟨rfl, HX.drop⟩
end
end Go.Proofs.YtheblkofemobdaaGreat

/-
  gunnylaw21: great, filled.
-/
namespace Go.Proofs.YtheblkofemobdaaGreat
open Go.RowKit

theorem alloc_kept {M : RamS} {S : PoolS} {L : List OE} {d : List UInt8} (hK : Kept M S L) :
    (∃ x : Nat, x ≤ 512 ∧ (S.alloc M d).1 = ((x : Int), 0) ∧ Kept (S.alloc M d).2.1 (S.alloc M d).2.2 (L ++ [((x : Int), d)]) ∧ S.tab.many < 512 ∧ needP S d.length ≤ M.fr.free.length ∧ 1 ≤ d.length ∧ d.length ≤ 4096) ∨
    (∃ er : Int, (er = 1 ∨ er = 11) ∧ S.alloc M d = ((0, er), M, S) ∧ (1 ≤ d.length → d.length ≤ 4096 → er = 11 ∧ (512 ≤ S.tab.many ∨ M.fr.free.length < needP S d.length))) := by
  by_cases h0 : d.length < 1 ∨ 4096 < d.length
  · exact .inr ⟨1, .inl rfl, alloc_bad h0, fun h1 h2 => by omega⟩
  · by_cases h1 : 512 ≤ S.tab.many ∨ M.fr.free.length < needP S d.length
    · exact .inr ⟨11, .inr rfl, alloc_no (by omega) (by omega) h1, fun _ _ => ⟨rfl, h1⟩⟩
    · obtain ⟨x, A⟩ := alloc_law hK.ok (by omega : 1 ≤ d.length) (by omega) (by omega) (by omega)
      exact .inl ⟨x, A.h2, A.res, (hK.alloc A).1, by omega, by omega, by omega, by omega⟩
section
variable {e : Env} {w : World} {R : List HP}
set_option maxRecDepth 100000 in
set_option maxHeartbeats 400000 in
theorem great21 (H : Holds e w R) (v : Value) (n : Nat) (xs : List Value) (hn : n ≤ 4611686018427387904) (hr : ∀ w', Holds e w' R → Reads w' v 4 n xs) (hD : ∀ i, i < n → ∃ d, DeedAt xs i d) :
    Calls Tryz.prog 32 #[v] w (RetEx e (fun b : Bool => .bool b) (fun b => pur (b = false → n ≤ 120) :: R)) := by
  obtain ⟨a, c, rfl⟩ := (hr w H).shape
  have HR := Lib.hid hr
  have HDD := Lib.hid hD
  clear hr hD
  go_enter Tryz.func32, Tryz.ntmps32
  go_wp2_with fail
  go_loopw [3, 4] (fun s i wr => ∃ (k : Nat) (x : Int), k ≤ n ∧ k ≤ 300 ∧ i = .int .i64 (k : Nat) ∧ s = .int .i64 x ∧ 0 ≤ x ∧ x ≤ 9000 * k ∧ Holds e wr R) (fun _ i _ => n - (intOf i).toNat)
  case atStart => exact ⟨0, 0, by omega, by omega, rfl, rfl, by omega, by omega, H⟩
  case round =>
    obtain ⟨k, x, hk, hk2, rfl, rfl, hx0, hx9, HX⟩ := hrel
    clear H
    have hx6 : x ≤ 2700000 := by omega
    by_cases hlt : k < n ∧ k < 300
    · obtain ⟨hl1, hl2⟩ := hlt
      obtain ⟨d, hd⟩ := HDD.out k hl1
      have hb := hd.b2
      obtain ⟨g, o, rfl, q0, q1, q2, q3⟩ := deed_cells (HR.out _ HX) hl1 hd
      clear q0 q1 q3 hd
      obtain ⟨hb1, hb2⟩ := hb
      have hki : (k : Int) < n := by omega
      generalize d.size = z at *
      have m1 : max 0 z ≥ 0 := by omega
      obtain ⟨y, hy⟩ : ∃ y, min 9000 (max 0 z) = y := ⟨_, rfl⟩
      have hy1 : 0 ≤ y ∧ y ≤ 9000 := by omega
      go_wp2_with fail
      go_roundw
      case rel => exact ⟨k + 1, x + y, by omega, by omega, by go_num, rfl, by omega, by omega, HX⟩
      case measure => simp [intOf]; omega
    · by_cases h1 : k < n
      · have hk0 : decide ((k : Int) < 300) = false := decide_eq_false (by omega)
        have hki : (k : Int) < n := by omega
        have h120 : (120 : Int) < n := by omega
        go_wp2_with fail
        go_ret
        exact ⟨true, rfl, Holds.mkPur (fun h => by cases h) HX⟩
      · have hki : ¬ (k : Int) < n := by omega
        clear hlt
        by_cases h120 : (120 : Int) < n
        · go_wp2_with fail
          go_ret
          exact ⟨true, rfl, Holds.mkPur (fun h => by cases h) HX⟩
        · go_wp2_with fail
          go_ret
          exact ⟨_, rfl, Holds.mkPur (fun _ => by omega) HX⟩

abbrev FQ := (Nat × Nat × Nat) × RamS × PoolS × Value × List OE
def FQ.val (q : FQ) : Value := .tuple #[.pointer (some ⟨q.1.1, 0, none⟩), q.2.2.2.1]
def fillPost (R : List HP) (q : FQ) : List HP := pur (Kept q.2.1 q.2.2.1 q.2.2.2.2 ∧ q.2.2.2.2.length ≤ 120) :: oH q.2.2.2.1 q.2.2.2.2 :: poolH q.1.1 q.1.2.1 q.1.2.2 q.2.2.1 :: ramH q.1.2.2 q.2.1 :: R
set_option maxRecDepth 100000 in
set_option maxHeartbeats 4000000 in
theorem mFilled (H : Holds e w R) (v : Value) (n : Nat) (xs : List Value) (hn : n ≤ 120) (hr : ∀ w', Holds e w' R → Reads w' v 4 n xs) (hD : ∀ i, i < n → ∃ d, DeedAt xs i d) :
    Calls Tryz.prog 34 #[v] w (RetEx e FQ.val (fillPost R)) := by
  obtain ⟨a, c, rfl⟩ := (hr w H).shape
  have HR := Lib.hid hr
  have HDD := Lib.hid hD
  clear hr hD
  go_enter Tryz.func34, Tryz.ntmps34
  go_wp2_with fail
  refine (ramNew_yes H 80 (by omega) (by omega)).mono ?_
  rintro en w3 ⟨rb, rfl, H3⟩
  clear H
  go_wp2_with fail
  refine (poNew H3 rb).mono ?_
  rintro en w4 ⟨⟨pb, tb⟩, rfl, H4⟩
  have H5 := o_nil H4
  clear H3 H4
  go_wp2_with fail
  go_loopw [7, 8] (fun vx i wr => ∃ (k : Nat) (M : RamS) (S : PoolS) (L : List OE), k ≤ n ∧ i = .int .i64 (k : Nat) ∧ Hid (Kept M S L ∧ L.length ≤ k) ∧ Holds e wr (oH vx L :: poolH pb tb rb S :: ramH rb M :: R)) (fun _ i _ => n - (intOf i).toNat)
  case atStart => exact ⟨0, RamS.new 80, PoolS.new, [], by omega, rfl, Lib.hid ⟨Kept.new (by omega) (by omega), Nat.le_refl _⟩, H5⟩
  case round =>
    obtain ⟨k, M, S, L, hk, rfl, HK, HX⟩ := hrel
    clear H5
    obtain ⟨la, lc, hlv⟩ := o_shape HX
    subst hlv
    have hLk := HK.out.2
    have hL6 : L.length ≤ 1000000 := by omega
    by_cases hlt : k < n
    · obtain ⟨d, hd⟩ := HDD.out k hlt
      obtain ⟨g, o, rfl, q0, q1, q2, q3⟩ := deed_cells (HR.out _ HX.drop.drop.drop) hlt hd
      obtain ⟨b11, b12⟩ := hd.b1
      obtain ⟨b21, b22⟩ := hd.b2
      obtain ⟨b31, b32⟩ := hd.b3
      have hki : (k : Int) < n := by omega
      clear hd
      obtain ⟨kd, nn, sz, sd⟩ := d
      dsimp only at q0 q1 q2 q3 b11 b12 b21 b22 b31 b32
      have H7 := HX.alloc (.cells #[.int .i64 kd, .int .i64 nn, .int .i64 sz, .int .u8 sd] 33)
      obtain ⟨bx, hbx⟩ : ∃ bx, wr.heap.size = bx := ⟨_, rfl⟩
      rw [hbx] at H7
      clear HX
      by_cases hk2 : kd < 2
      · obtain ⟨m, hm⟩ : ∃ m : Nat, max 0 (min 5000 sz) = (m : Int) := ⟨(max 0 (min 5000 sz)).toNat, by omega⟩
        have hm5 : m ≤ 5000 := by omega
        have HBY := Lib.hid (bytes20 H7 m (by omega) sd ⟨b31, b32⟩)
        go_wp2_with fail
        refine HBY.out.mono ?_
        rintro en w7 ⟨⟨vb, db⟩, rfl, H8⟩
        have hdb := H8.purE
        dsimp only at hdb
        have H9 : Holds e w7 (poolH pb tb rb S :: ramH rb M :: bts vb db :: oH (.slice la L.length lc) L :: R) := (H8.drop.d1).p2.p3.swap
        have CAL := poAlloc H9 HK.out.1.ok vb db (fun w' h' => bts.reads h') (by omega)
        clear HBY H7 H8 q0 q1 q2 q3 hbx hm H9
        rcases alloc_kept (d := db) HK.out.1 with ⟨x, hx5, e1, hK2, _⟩ | ⟨er, her, e1, _⟩
        · obtain ⟨r, hr⟩ : ∃ r, S.alloc M db = r := ⟨_, rfl⟩
          rw [hr] at CAL e1 hK2
          obtain ⟨⟨r1, r2⟩, M2, S2⟩ := r
          dsimp only at CAL e1 hK2
          cases e1
          have CAL := Lib.hid CAL
          have HK2 := Lib.hid hK2
          clear hr hK2
          go_wp2_with fail
          refine CAL.out.mono ?_
          rintro en w8 ⟨rfl, H10⟩
          have CPT := Lib.hid (r20Put (R := poolH pb tb rb S2 :: ramH rb M2 :: bts vb db :: R) L (.slice la L.length lc) x vb db hL6 (by omega) (fun w' h' => bts.reads h'.drop.drop) H10.p3)
          clear CAL H10
          go_wp2_with fail
          refine CPT.out.mono ?_
          rintro en w9 ⟨v9, rfl, H11⟩
          have H12 := H11.d3
          clear CPT H11
          go_wp2_with fail
          go_roundw
          case rel => exact ⟨k + 1, M2, S2, L ++ [((x : Int), db)], by omega, by go_num, Lib.hid ⟨HK2.out, by rw [List.length_append, List.length_singleton]; omega⟩, H12⟩
          case measure => simp [intOf]; omega
        · rw [e1] at CAL
          dsimp only at CAL
          have CAL := Lib.hid CAL
          have her0 : (er == 0) = false := by rcases her with rfl | rfl <;> rfl
          clear her e1
          go_wp2_with fail
          refine CAL.out.mono ?_
          rintro en w8 ⟨rfl, H10⟩
          have H11 := H10.p3.d3
          clear CAL H10
          go_wp2_with fail
          go_roundw
          case rel => exact ⟨k + 1, M, S, L, by omega, by go_num, Lib.hid ⟨HK.out.1, by have := HK.out.2; omega⟩, H11⟩
          case measure => simp [intOf]; omega
      · have hk0 : decide (kd < 2) = false := decide_eq_false hk2
        by_cases hn0 : 0 ≤ nn ∧ nn < L.length
        · obtain ⟨kn, rfl⟩ : ∃ kn : Nat, nn = (kn : Int) := ⟨nn.toNat, by omega⟩
          have hkn : kn < L.length := by omega
          obtain ⟨q, hq⟩ : ∃ q, L[kn]? = some q := ⟨_, List.getElem?_eq_getElem hkn⟩
          obtain ⟨g2, o2, c2, vb2, hv2, y0, _, _⟩ := o_at hq H7.swap
          cases hv2
          have z2 : decide ((L.length : Int) ≤ (kn : Int)) = false := decide_eq_false (by omega)
          have z3 : decide (L.length ≤ kn) = false := decide_eq_false (by omega)
          have z4 : (kn : Int) < (L.length : Int) := by omega
          have hP := HK.out.1.ok
          rcases free_list HK.out.1 q.1 with ⟨hin, hat, hfr1⟩ | ⟨kk, ⟨M2, S2⟩, hkk, hat, hfr1, hK2, hKp2⟩
          · have := (HK.out.1.at (List.mem_of_getElem? hq)).1
            rw [hin] at this
            cases this
          · have CF : Hid (∀ w' Y, Holds e w' (poolH pb tb rb S :: ramH rb M :: Y) → Calls Tryz.prog 13 #[.pointer (some ⟨pb, 0, none⟩), .int .i64 q.1] w' (Ret e (.bool true) (poolH pb tb rb S2 :: ramH rb M2 :: Y))) := Lib.hid fun w' Y h => by
              have h1 := poFree h hP q.1
              rw [hfr1] at h1
              exact h1
            have HAT := Lib.hid hat
            have HKK := Lib.hid hkk
            have HQ := Lib.hid hq
            have HK2 : Hid (Kept M2 S2 (L.eraseIdx kk) ∧ (L.eraseIdx kk).length ≤ k + 1) := Lib.hid ⟨hK2, by rw [List.length_eraseIdx]; split <;> omega⟩
            clear hP hat hfr1 hK2 hKp2 hkk hn0 hq
            go_wp2_with fail
            refine (CF.out _ _ H7.p2.p3.swap).mono ?_
            rintro en w8 ⟨rfl, H8⟩
            have H9 := H8.p3
            have hcx := H9.p3.cells 1
            obtain ⟨g3, o3, c3, vb3, hv3, y1, _, _⟩ := o_at HQ.out H9
            cases hv3
            have CD := Lib.hid (r20Drop_yes L _ q.1 hL6 HKK.out HAT.out H9)
            clear CF H7 H8 H9 y0 q0 q1 q2 q3 hbx
            go_wp2_with fail
            refine CD.out.mono ?_
            rintro en w9 ⟨v9, rfl, H10⟩
            have H11 := H10.d3
            clear CD H10 y1 hcx
            go_wp2_with fail
            go_roundw
            case rel => exact ⟨k + 1, M2, S2, L.eraseIdx kk, by omega, by go_num, HK2, H11⟩
            case measure => simp [intOf]; omega
        · have H8 := H7.drop
          by_cases hn1 : nn < 0
          · have z1 : decide (nn < 0) = true := decide_eq_true hn1
            clear hn0
            go_wp2_with fail
            go_roundw
            case rel => exact ⟨k + 1, M, S, L, by omega, by go_num, Lib.hid ⟨HK.out.1, by have := HK.out.2; omega⟩, H8⟩
            case measure => simp [intOf]; omega
          · have z1 : decide (nn < 0) = false := decide_eq_false hn1
            have z2 : decide ((L.length : Int) ≤ nn) = true := decide_eq_true (by omega)
            clear hn0
            go_wp2_with fail
            go_roundw
            case rel => exact ⟨k + 1, M, S, L, by omega, by go_num, Lib.hid ⟨HK.out.1, by have := HK.out.2; omega⟩, H8⟩
            case measure => simp [intOf]; omega
    · obtain rfl : k = n := by omega
      go_wp2_with fail
      go_ret2
      exact ⟨((pb, tb, rb), M, S, .slice la L.length lc, L), rfl, Holds.mkPur ⟨HK.out.1, by dsimp only; omega⟩ HX⟩
end
end Go.Proofs.YtheblkofemobdaaGreat

/-
  gunnylaw21: lives, the plain law.
-/
namespace Go.Proofs.YtheblkofemobdaaGreat
open Go.RowKit

section
variable {M M0 : RamS} {S S0 : PoolS} {L Lo : List OE} {m c j n : Nat} {g : PgS}
/-- Two handles on a page: two objects. -/
theorem PoolOk.two_on (hP : PoolOk M S) (hn : S.pgs[n]? = some (some g)) {x y : Nat} (x1 : 1 ≤ x) (x2 : x ≤ 512) (y1 : 1 ≤ y) (y2 : y ≤ 512) (hx : S.tab.all x ≠ PlaceS.zero) (hy : S.tab.all y ≠ PlaceS.zero) (px : (S.tab.all x).page = (n : Int)) (py : (S.tab.all y).page = (n : Int)) (hne : x ≠ y) : 2 ≤ cnt g.set := by
  obtain ⟨n1, o1, l1, g1, V1⟩ := hP.tab.val x x1 x2 hx
  obtain ⟨n2, o2, l2, g2, V2⟩ := hP.tab.val y y1 y2 hy
  have e1 : n1 = n := by rw [V1.eq] at px; dsimp only at px; omega
  have e2 : n2 = n := by rw [V2.eq] at py; dsimp only at py; omega
  subst e1
  have h1 := V1.pg
  rw [hn] at h1
  cases h1
  have h2 := V2.pg
  rw [e2, hn] at h2
  cases h2
  have ho : o1 ≠ o2 := fun e => hne (hP.tab.dist x y x1 x2 y1 y2 hx hy (by rw [px, py]) (by rw [V1.eq, V2.eq]; dsimp only; omega))
  have h3 := nd_len [o1, o2] (truesOf g.set) (by simp [ho]) fun o h => by
    rcases List.mem_cons.1 h with rfl | h
    · exact List.mem_filter.2 ⟨List.mem_range.2 V1.obl, V1.bit⟩
    · rw [List.mem_singleton.1 h]
      exact List.mem_filter.2 ⟨List.mem_range.2 V2.obl, V2.bit⟩
  rw [truesOf_len] at h3
  exact h3
def PG (S : PoolS) (L : List OE) : List Nat := L.map fun q => (S.tab.all q.1.toNat).page.toNat
def Half (L : List OE) : Prop := ∀ q ∈ L, q.2.length = 2048
theorem cls31 : cObjects 31 = 2 ∧ cFrames 31 = 1 := by decide
theorem Kept.cls (hK : Kept M S L) (hH : Half L) {x : Nat} (x1 : 1 ≤ x) (x2 : x ≤ 512) (hx : S.tab.all x ≠ PlaceS.zero) : clsP (S.tab.all x) = 31 ∧ ∃ q ∈ L, q.1 = (x : Int) := by
  have h1 : S.tab.inb (x : Int) = true := inb_nat x1 x2 hx
  obtain ⟨q, hq, he⟩ := List.mem_map.1 (hK.inb.1 h1)
  have h2 := (hK.lens hq).2.2
  rw [he, Int.toNat_natCast, hH q hq] at h2
  obtain ⟨n1, o1, l1, g1, V1⟩ := hK.ok.tab.val x x1 x2 hx
  rw [V1.eq] at h2 ⊢
  rw [clsP_nat]
  dsimp only at h2
  exact ⟨by omega, q, hq, he⟩
/-- The pages of class 31 are those of the handles. -/
theorem Kept.pages31 (hK : Kept M S L) (hH : Half L) : n ∈ pgN (sheetsOf S.pgs 0) 31 ↔ n ∈ PG S L := by
  rw [hK.ok.pgN_at]
  unfold PG
  rw [List.mem_map]
  constructor
  · rintro ⟨x, x1, x2, x3, x4, _⟩
    obtain ⟨q, hq, he⟩ := (hK.cls hH x1 x2 x3).2
    exact ⟨q, hq, by rw [he, Int.toNat_natCast, x4, Int.toNat_natCast]⟩
  · rintro ⟨q, hq, he⟩
    obtain ⟨h1, h2, h3⟩ := TabS.inb_yes (hK.at hq).1
    obtain ⟨n1, o1, l1, g1, V1⟩ := hK.ok.tab.val q.1.toNat (by omega) (by omega) h3
    refine ⟨q.1.toNat, by omega, by omega, h3, ?_, (hK.cls hH (by omega) (by omega) h3).1⟩
    rw [V1.eq] at he ⊢
    dsimp only at he ⊢
    omega
def Pat (P : List Nat) : Prop := ∀ i j x y, P[i]? = some x → P[j]? = some y → (x = y ↔ i / 2 = j / 2)
theorem pat_len {P Q : List Nat} (hp : Pat P) (hQ : Q.Nodup) (hm : ∀ n, n ∈ Q ↔ n ∈ P) : Q.length = (P.length + 1) / 2 := by
  have h1 : ((List.range ((P.length + 1) / 2)).map fun i => P.getD (2 * i) 0).Nodup := by
    unfold List.Nodup
    rw [List.pairwise_map]
    refine List.Pairwise.imp_of_mem (R := fun a b => a ≠ b) (fun {a b} ha hb hab e => hab ?_) List.nodup_range
    have ha := List.mem_range.1 ha
    have hb := List.mem_range.1 hb
    have e1 : P[2 * a]? = some (P.getD (2 * a) 0) := get_getD (by omega)
    have e2 : P[2 * b]? = some (P.getD (2 * b) 0) := get_getD (by omega)
    have := (hp _ _ _ _ e1 e2).1 e
    omega
  have h2 := (List.perm_ext_iff_of_nodup hQ h1).2 fun n => by
    rw [hm, List.mem_map]
    constructor
    · intro h
      obtain ⟨i, hi⟩ := List.getElem?_of_mem h
      have hil := (List.getElem?_eq_some_iff.1 hi).1
      refine ⟨i / 2, List.mem_range.2 (by omega), ?_⟩
      have e1 : P[2 * (i / 2)]? = some (P.getD (2 * (i / 2)) 0) := get_getD (by omega)
      exact (hp _ _ _ _ e1 hi).2 (by omega)
    · rintro ⟨i, hi, rfl⟩
      have hi := List.mem_range.1 hi
      exact getD_mem (by omega)
  have h3 := h2.length_eq
  rw [List.length_map, List.length_range] at h3
  exact h3
theorem Kept.sp31 (hK : Kept M S L) (hH : Half L) (hp : Pat (PG S L)) : spPages (sheetsOf S.pgs 0) (31 : Nat) = (L.length + 1) / 2 := by
  rw [← pgN_len, pat_len hp (pgN_nd _ _) fun n => hK.pages31 hH]
  unfold PG
  rw [List.length_map]
theorem hole_shut : ∀ (l : Pgs) (g : PgS), l[holeOf l]? ≠ some (some g)
  | [], g, h => by cases h
  | none :: l, g, h => by cases h
  | some g0 :: l, g, h => hole_shut l g (by
    have e : holeOf (some g0 :: l) = holeOf l + 1 := by unfold holeOf; rw [List.findIdx_cons]; rfl
    rw [e, List.getElem?_cons_succ] at h
    exact h)
theorem objectsO_half : ∀ {L : List OE}, Half L → objectsO L 31 = L.length
  | [], _ => rfl
  | q :: L, h => by
    have ih := objectsO_half (L := L) fun q' hq' => h q' (by simp [hq'])
    have h1 := h q (by simp)
    unfold objectsO at ih ⊢
    rw [List.map_cons, List.sum_cons, ih, h1, List.length_cons, if_pos (by omega)]
    omega
theorem objectsO_half0 : ∀ {L : List OE}, Half L → ∀ c, c ≠ 31 → objectsO L c = 0
  | [], _, _, _ => rfl
  | q :: L, h, c, hc => by
    have ih := objectsO_half0 (L := L) (fun q' hq' => h q' (by simp [hq'])) c hc
    have h1 := h q (by simp)
    unfold objectsO at ih ⊢
    rw [List.map_cons, List.sum_cons, ih, h1, if_neg (by omega)]
theorem Kept.room31 (hK : Kept M S L) (hH : Half L) (hp : Pat (PG S L)) (hodd : L.length % 2 = 1) : ∃ m, bestB (S.bks 31) [] = some m := by
  apply Classical.byContradiction
  intro hno
  have h1 := full_sum (N := 2) (m := 600) (c := 31) (sheetsOf S.pgs 0) (sheetsOf_nd S.pgs 0) (fun p hp hpc => by
    have h1 := (hK.ok.sheetF hp).1
    have h2 := cnt_le p.2.set
    have h3 := h1.pos
    rw [h1.set, hpc, cls31.1] at h2
    omega) fun p hp hpc hpm => by
      have h1 := (hK.ok.sheetF hp).1
      have h2 := cnt_le p.2.set
      have h4 := (hK.ok.sheet hp).1
      have h5 : ¬ cnt p.2.set < p.2.set.length := fun h => by
        obtain ⟨m, hm⟩ := bestB_some h4 hK.ok.len hpc h (bs := []) (by simp)
        exact hno ⟨m, by rw [hK.ok.bks 31 (by omega)]; exact hm⟩
      rw [h1.set, hpc, cls31.1] at h2 h5
      omega
  rw [hK.sp31 hH hp, hK.objects, objectsO_half hH, if_neg (fun h => by
    obtain ⟨p, hp, he⟩ := List.mem_map.1 h
    have := (hK.ok.sheetF hp).2
    omega)] at h1
  omega
theorem PG_at {k : Nat} {q : OE} (h : L[k]? = some q) : (PG S L)[k]? = some (S.tab.all q.1.toNat).page.toNat := by unfold PG; rw [List.getElem?_map, h]; rfl
theorem Kept.pat_step (hK : Kept M S L) (hH : Half L) (hp : Pat (PG S L)) : ∀ i y, (PG S L)[i]? = some y → (y = whereP S 2048 ↔ i / 2 = L.length / 2) := by
  intro i y hi
  have hlen : (PG S L).length = L.length := by unfold PG; rw [List.length_map]
  have hil := (List.getElem?_eq_some_iff.1 hi).1
  have hw : whereP S 2048 = (bestB (S.bks 31) []).getD (holeOf S.pgs) := rfl
  cases hb : bestB (S.bks 31) [] with
  | some n =>
    rw [hw, hb, Option.getD_some]
    obtain ⟨g, hg, hgc, hlt, _, _⟩ := bestB_at (hK.ok.bks 31 (by omega)) hK.ok.len hb
    obtain ⟨L0, hI⟩ := hK.ok.pgs.pg n g hg
    rw [hI.ok.set, hgc, cls31.1] at hlt
    have hn : n ∈ PG S L := (hK.pages31 hH).1 (pgN_mem.2 ⟨g, hg, hgc⟩)
    obtain ⟨i0, hi0⟩ := List.getElem?_of_mem hn
    have hi0l := (List.getElem?_eq_some_iff.1 hi0).1
    have hlast : ∀ j, j < L.length → j ≠ i0 → j / 2 ≠ i0 / 2 := fun j hj hne he => by
      obtain ⟨q1, hq1⟩ : ∃ q1, L[j]? = some q1 := ⟨_, List.getElem?_eq_getElem hj⟩
      obtain ⟨q2, hq2⟩ : ∃ q2, L[i0]? = some q2 := ⟨_, List.getElem?_eq_getElem (by omega)⟩
      have e1 := (hp _ _ _ _ (PG_at hq1) hi0).2 he
      have e2 : (S.tab.all q2.1.toNat).page.toNat = n := by have := PG_at (S := S) hq2; rw [hi0] at this; cases this; rfl
      obtain ⟨a1, a2, a3⟩ := TabS.inb_yes (hK.at (List.mem_of_getElem? hq1)).1
      obtain ⟨b1, b2, b3⟩ := TabS.inb_yes (hK.at (List.mem_of_getElem? hq2)).1
      obtain ⟨n1, o1, l1, g1, V1⟩ := hK.ok.tab.val q1.1.toNat (by omega) (by omega) a3
      obtain ⟨n2, o2, l2, g2, V2⟩ := hK.ok.tab.val q2.1.toNat (by omega) (by omega) b3
      have := hK.ok.two_on hg (x := q1.1.toNat) (y := q2.1.toNat) (by omega) (by omega) (by omega) (by omega) a3 b3 (by rw [V1.eq] at e1 ⊢; dsimp only at e1 ⊢; omega) (by rw [V2.eq] at e2 ⊢; dsimp only at e2 ⊢; omega) (fun e => hne (nodup_at hK.nd hq1 hq2 (by omega)))
      omega
    have h1 := hp _ _ _ _ hi hi0
    rw [h1]
    have h2 : i0 + 1 = L.length ∧ L.length % 2 = 1 := by
      by_cases he : i0 % 2 = 0
      · have : ¬ i0 + 1 < L.length := fun h => hlast (i0 + 1) h (by omega) (by omega)
        omega
      · have := hlast (i0 - 1) (by omega) (by omega)
        omega
    omega
  | none =>
    have hev : L.length % 2 = 0 := by
      by_cases ho : L.length % 2 = 1
      · obtain ⟨m, hm⟩ := hK.room31 hH hp ho
        rw [hb] at hm; cases hm
      · omega
    rw [hw, hb, Option.getD_none]
    constructor
    · intro h0
      rw [h0] at hi
      obtain ⟨g, hg, _⟩ := pgN_mem.1 ((hK.pages31 hH).2 (List.mem_of_getElem? hi))
      exact absurd hg (hole_shut _ _)
    · intro h; omega
theorem Kept.alloc31 {d : List UInt8} {x : Nat} {q : (Int × Int) × RamS × PoolS} (hK : Kept M S L) (hH : Half L) (hp : Pat (PG S L)) (hd : d.length = 2048) (A : Alloced M S d (whereP S d.length) x q) : Half (L ++ [((x : Int), d)]) ∧ Pat (PG q.2.2 (L ++ [((x : Int), d)])) := by
  rw [hd] at A
  constructor
  · intro q' hq'
    rcases List.mem_append.1 hq' with h | h
    · exact hH q' h
    · rw [List.mem_singleton.1 h]; exact hd
  · have hs := hK.pat_step hH hp
    generalize whereP S 2048 = wp at A hs
    have e : PG q.2.2 (L ++ [((x : Int), d)]) = PG S L ++ [wp] := by
      unfold PG
      rw [List.map_append]
      congr 1
      · apply List.map_congr_left
        intro q' hq'
        have h1 := (TabS.inb_yes (hK.at hq').1).2.2
        rw [A.tab q'.1.toNat (fun e => h1 (e ▸ A.hz))]
      · obtain ⟨k, hk⟩ := A.place
        rw [List.map_singleton]
        dsimp only
        rw [Int.toNat_natCast, hk]
        rfl
    rw [e]
    have hlen : (PG S L).length = L.length := by unfold PG; rw [List.length_map]
    generalize PG S L = P at *
    have key : ∀ i y, (P ++ [wp])[i]? = some y → (i < L.length ∧ P[i]? = some y) ∨ (i = L.length ∧ y = wp) := fun i y h => by
      by_cases hi : i < L.length
      · rw [List.getElem?_append_left (by omega)] at h
        exact .inl ⟨hi, h⟩
      · rw [List.getElem?_append_right (by omega)] at h
        have h1 := (List.getElem?_eq_some_iff.1 h).1
        rw [List.length_singleton] at h1
        have h2 : i = L.length := by omega
        rw [h2, hlen, Nat.sub_self] at h
        cases h
        exact .inr ⟨h2, rfl⟩
    intro i j y z hi hj
    rcases key i y hi with ⟨a1, a2⟩ | ⟨a1, a2⟩ <;> rcases key j z hj with ⟨b1, b2⟩ | ⟨b1, b2⟩
    · exact hp i j y z a2 b2
    · rw [b1, b2]; exact hs i y a2
    · rw [a1, a2]
      have := hs j z b2
      constructor
      · intro h; exact (this.1 h.symm).symm
      · intro h; exact (this.2 h.symm).symm
    · rw [a1, a2, b1, b2]; simp
theorem Kept.cls_sheet (hK : Kept M S L) (hH : Half L) {p : Nat × PgS} (hp : p ∈ sheetsOf S.pgs 0) : p.2.cls = 31 := by
  obtain ⟨h1, _⟩ := hK.ok.sheet hp
  obtain ⟨x, x1, x2, x3, x4⟩ := hK.ok.has h1
  have h2 := (hK.cls hH x1 x2 x3).1
  have h3 : p.1 ∈ pgN (sheetsOf S.pgs 0) 31 := hK.ok.pgN_at.2 ⟨x, x1, x2, x3, x4, h2⟩
  exact cls_one h3 (pgN_mem.2 ⟨p.2, h1, rfl⟩)
theorem Kept.frames31 (hK : Kept M S L) (hH : Half L) : M.fr.count [3] = spPages (sheetsOf S.pgs 0) (31 : Nat) := by
  rw [hK.ok.pgs.frames, ← framesOf_fsum S.pgs 0]
  have h1 : ∀ p ∈ sheetsOf S.pgs 0, p.2.cls = 31 ∧ p.2.row.length = 1 := fun p hp => by
    have h2 := hK.cls_sheet hH hp
    exact ⟨h2, by rw [(hK.ok.sheetF hp).1.len, h2]; exact cls31.2⟩
  generalize sheetsOf S.pgs 0 = l at h1
  induction l with
  | nil => rfl
  | cons p l ih =>
    have ih := ih fun q hq => h1 q (by simp [hq])
    obtain ⟨h2, h3⟩ := h1 p (by simp)
    unfold framesOf spPages at ih ⊢
    rw [List.map_cons, List.sum_cons, ih, h3, List.filter_cons, if_pos (by rw [h2]; rfl), List.length_cons]
    omega
theorem Kept.spare0 (hK : Kept M S L) (hH : Half L) {c : Nat} (hc : c ≠ 31) : spareL (sheetsOf S.pgs 0) c = 0 := by
  have h1 : ∀ p ∈ sheetsOf S.pgs 0, ¬ (p.2.cls : Int) = c := fun p hp => by
    have := hK.cls_sheet hH hp
    omega
  have h2 : spPages (sheetsOf S.pgs 0) c = 0 := by
    unfold spPages
    rw [List.filter_eq_nil_iff.2 fun p hp => by simpa using h1 p hp]
    rfl
  have h3 : objectsOf (sheetsOf S.pgs 0) c = 0 := objectsOf_none h1
  have h4 : spMany (sheetsOf S.pgs 0) c = 1 := by
    unfold spMany
    have : ∀ (l : List (Nat × PgS)), (∀ q ∈ l, ¬ (q.2.cls : Int) = c) → ∀ m, l.foldl (fun m p => if (p.2.cls : Int) = c then p.2.set.length else m) m = m := by
      intro l
      induction l with
      | nil => intro _ m; rfl
      | cons q l ih => intro hl m; rw [List.foldl_cons, if_neg (hl q (by simp))]; exact ih (fun q' hq' => hl q' (by simp [hq'])) m
    exact this _ h1 1
  unfold spareL
  rw [h2, h3, h4]
  rfl
theorem Kept.gain31 (hK : Kept M S L) (hH : Half L) : ∀ k : Nat, gainTo (sheetsOf S.pgs 0) k = if 31 < k then spareL (sheetsOf S.pgs 0) (31 : Nat) else 0
  | 0 => rfl
  | k + 1 => by
    unfold gainTo
    rw [Kept.gain31 hK hH k]
    by_cases hk : k = 31
    · subst hk
      rw [if_neg (by omega), if_pos (by omega), cls31.2]
      omega
    · rw [hK.spare0 hH hk]
      by_cases h2 : 31 < k
      · rw [if_pos h2, if_pos (by omega)]; omega
      · rw [if_neg h2, if_neg (by omega)]; omega
theorem objects_le {N c : Nat} : ∀ (l : List (Nat × PgS)), (∀ p ∈ l, (p.2.cls : Int) = c → cnt p.2.set ≤ N) → objectsOf l c ≤ N * spPages l c
  | [], _ => Nat.zero_le _
  | p :: l, h => by
    have ih := objects_le l fun q hq => h q (by simp [hq])
    have h1 := h p (by simp)
    unfold objectsOf spPages at ih ⊢
    rw [List.map_cons, List.sum_cons, List.filter_cons]
    by_cases hc : (p.2.cls : Int) = c
    · have := h1 hc
      rw [if_pos hc, if_pos (by simpa using hc), List.length_cons, Nat.mul_succ]
      omega
    · rw [if_neg hc, if_neg (by simpa using hc)]
      omega
theorem Kept.spare31 (hK : Kept M S L) (hH : Half L) (h3 : L.length = 3) : spareL (sheetsOf S.pgs 0) (31 : Nat) = (spPages (sheetsOf S.pgs 0) (31 : Nat) : Int) - 2 ∧ 2 ≤ spPages (sheetsOf S.pgs 0) (31 : Nat) := by
  have h1 := objects_le (N := 2) (c := 31) (sheetsOf S.pgs 0) fun p hp hpc => by
    have h2 := cnt_le p.2.set
    rw [(hK.ok.sheetF hp).1.set, show p.2.cls = 31 by omega, cls31.1] at h2
    exact h2
  have h4 : objectsOf (sheetsOf S.pgs 0) (31 : Nat) = 3 := by rw [hK.objects, objectsO_half hH, h3]
  rw [h4] at h1
  have h5 : 2 ≤ spPages (sheetsOf S.pgs 0) (31 : Nat) := by omega
  refine ⟨?_, h5⟩
  unfold spareL
  rw [h4, hK.ok.many_at (by omega), cls31.1]
  rfl
theorem lives_a (hK : Kept M S L) (hH : Half L) (h3 : L.length = 3) (hn : (PG S L).Nodup) : gainTo (sheetsOf S.pgs 0) 64 = 1 ∧ M.fr.count [3] = 3 := by
  have h1 : spPages (sheetsOf S.pgs 0) (31 : Nat) = 3 := by
    rw [← pgN_len, ← h3]
    have := ((List.perm_ext_iff_of_nodup (pgN_nd S.pgs 31) hn).2 fun n => hK.pages31 hH).length_eq
    rw [this]
    unfold PG
    rw [List.length_map]
  rw [hK.gain31 hH, if_pos (by omega), (hK.spare31 hH h3).1, hK.frames31 hH, h1]
  exact ⟨rfl, rfl⟩
theorem lives_b {q : RamS × PoolS} (h : CompOk L 64 q) (hH : Half L) (h3 : L.length = 3) : gainTo (sheetsOf q.2.pgs 0) 64 = 0 ∧ q.1.fr.count [3] = 2 := by
  obtain ⟨hK, hs⟩ := h
  have h1 := hs 31 (by omega)
  obtain ⟨h2, h4⟩ := hK.spare31 hH h3
  rw [hK.gain31 hH, if_pos (by omega), hK.frames31 hH]
  omega
theorem free_at (hK : Kept M S L) {q0 : OE} (hq : L[j]? = some q0) : ∃ q, S.free1 M q0.1 = (true, q) ∧ Kept q.1 q.2 (L.eraseIdx j) ∧ ∀ h : Nat, (h : Int) ≠ q0.1 → q.2.tab.all h = S.tab.all h := by
  have hx : S.tab.inb q0.1 = true := (hK.at (List.mem_of_getElem? hq)).1
  obtain ⟨n, ob, ln, g, V, e0, F⟩ := free_law hK.ok hx
  obtain ⟨k, hk, ha, hK2⟩ := hK.drop hx F
  rcases atO_cases L q0.1 with ⟨h1, _⟩ | ⟨k', q', hk', h2, h3⟩
  · rw [ha] at h1; omega
  · have : k' = k := by rw [ha] at h2; omega
    subst this
    have := nodup_at hK.nd hk' hq h3
    subst this
    rw [e0] at F hK2
    exact ⟨_, e0, hK2, fun h hh => by rw [F.all h, if_neg hh]⟩
end
end Go.Proofs.YtheblkofemobdaaGreat
