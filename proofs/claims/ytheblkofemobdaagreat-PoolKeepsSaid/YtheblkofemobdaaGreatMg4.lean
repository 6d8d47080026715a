import Derived.Test.YtheblkofemobdaaGreatMg3
/-
  gunnylaw20: alloc.
-/
namespace Go.Proofs.YtheblkofemobdaaGreat
open Go.RowKit

theorem into_fr {M : RamS} {S : PoolS} {n : Nat} {g : PgS} {d : List UInt8} (Rm : Room M S n g) (hc : g.cls = (d.length - 1) / 64) : (S.into M n d).2.1.fr = M.fr := by
  obtain ⟨k, L, hI⟩ := Rm.inv
  obtain ⟨hf, _, _⟩ := hI.takeHead
  have hk1 : g.first - 1 = k := by omega
  unfold PoolS.into
  rw [Rm.pg]
  dsimp only
  rw [hk1]
  exact (put_ram Rm.pgs.ram hI (csz_of hc)).2.1
theorem made_count {M : RamS} {c : Nat} {p : RamS × PgS} (mk : Made M c p) : p.1.fr.count [3] = M.fr.count [3] + cFrames c := by
  have h3 := count_row (F := M.fr) (F' := p.1.fr) (row := p.2.row) (u := 0) (v := 3) mk.olen mk.inv.ok.nd (fun r hr => ⟨by rw [← mk.olen]; exact mk.inv.ok.rowIn r hr, mk.was r hr⟩) mk.own [3]
  have h4 := mk.inv.ok.len
  rw [mk.cls] at h4
  simp at h3
  omega
theorem alloc_frames {M : RamS} {S : PoolS} {d : List UInt8} (h : PoolOk M S) (h1 : 1 ≤ d.length) (h2 : d.length ≤ 4096) (hm : S.tab.many < 512) (hf : needP S d.length ≤ M.fr.free.length) : (S.alloc M d).2.1.fr.count [3] = M.fr.count [3] + needP S d.length := by
  have hc : (d.length - 1) / 64 < 64 := by omega
  unfold needP at hf ⊢
  unfold PoolS.alloc
  rw [if_neg (by omega), if_neg (by omega)]
  cases hb : bestB (S.bks ((d.length - 1) / 64)) [] with
  | some n =>
    obtain ⟨g, Rm, hg, _⟩ := h.room_old hc hb
    dsimp only
    rw [into_fr Rm hg]
    simp only [Option.isSome_some, if_true, Nat.add_zero]
  | none =>
    rw [hb] at hf
    simp only [Option.isSome_none, Bool.false_eq_true, if_false] at hf ⊢
    have hf' := hf
    rw [if_neg (by omega)]
    obtain ⟨g, Rm, hg, _⟩ := h.room_new hc hm hf'
    rw [into_fr Rm hg]
    unfold PoolS.fresh
    dsimp only
    exact made_count (mk_made h.pgs.ram h.pgs.fr hc hf')
theorem note_count {M : RamS} {S : PoolS} {n : Nat} (hP : PgsOk M S.pgs) : (noteF M S n).1.fr.count [3] ≤ M.fr.count [3] := by
  unfold noteF
  split
  · next g hg =>
    split
    · exact Nat.le_refl _
    · obtain ⟨L, hI⟩ := hP.pg n g hg
      have h2 := count_row (F := M.fr) (F' := (M.giveL g.row).fr) (row := g.row) (u := 3) (v := 0) (giveL_len _ _) hI.ok.nd (fun r hr => ⟨hI.ok.rowIn r hr, hI.ok.own r hr⟩) (giveL_own hI.ok.rowIn) [3]
      simp at h2
      dsimp only
      omega
  · exact Nat.le_refl _
abbrev AR := Value × List OE × RamS × PoolS
section
variable {e : Env} {w : World} {R : List HP} {pb tb rb : Nat} {S : PoolS} {M : RamS}
def allocPost (pb tb rb : Nat) (M : RamS) (R : List HP) (r : AR) : List HP := pur (Kept r.2.2.1 r.2.2.2 r.2.1 ∧ Keep M r.2.2.1) :: oH r.1 r.2.1 :: poolH pb tb rb r.2.2.2 :: ramH rb r.2.2.1 :: R
/-- Frames, of any pool that is one. -/
theorem framesAny (hP : PoolOk M S) (H : Holds e w (poolH pb tb rb S :: R)) : Calls Tryz.prog 24 #[.pointer (some ⟨pb, 0, none⟩)] w (Ret e (.int .i64 (M.fr.count [3])) (poolH pb tb rb S :: R)) := by
  have := hP.len
  have h := poFrames H (by omega) hP.rows
  rw [framesOf_fsum, ← hP.pgs.frames] at h
  exact h
set_option maxRecDepth 100000 in
set_option maxHeartbeats 2000000 in
theorem alloc20_bad {vl vb : Value} {L : List OE} {d : List UInt8} (hK : Kept M S L) (hdl : d.length ≤ 9000) (hbad : d.length < 1 ∨ 4096 < d.length) (H : Holds e w (oH vl L :: poolH pb tb rb S :: ramH rb M :: bts vb d :: R)) :
    Calls Tryz.prog 28 #[.pointer (some ⟨pb, 0, none⟩), vl, vb] w (RetEx e (fun r : AR => .tuple #[r.1, .bool true]) (allocPost pb tb rb M R)) := by
  have H1 := H.swap
  have hP := hK.ok
  have hf96 := hP.pgs.fr.free96
  have hFR := Lib.hid fun (w' : World) (Y : List HP) (h : Holds e w' (poolH pb tb rb S :: Y)) => framesAny hP h
  have hRA := Lib.hid fun (w' : World) (Y : List HP) (h : Holds e w' (poolH pb tb rb S :: Y)) => retQ (poRAM h) h
  obtain ⟨la, lc, rfl⟩ := o_shape H
  obtain ⟨ba, bc, rfl⟩ := (bts.reads (H.imp fun _ s => (Take.there _ (Take.there _ (Take.there _ (Take.here _ _)))) _ s)).shape
  have hL512 := hK.len512
  have hC3 : M.fr.count [3] ≤ 96 := Nat.le_trans (List.length_filter_le _ _) hP.pgs.fr.n96
  have hC0 := free_count hP.pgs.fr
  clear H
  have CND : Hid (∀ w' Y, Holds e w' (poolH pb tb rb S :: Y) → Calls Tryz.prog 17 #[.pointer (some ⟨pb, 0, none⟩), .int .i64 d.length] w' (Ret e (.int .i64 0) (poolH pb tb rb S :: Y))) := Lib.hid fun w' Y h => retQ (poNeed_bad d.length (by omega) _) h
  go_enter Tryz.func28, Tryz.ntmps28
  go_wp2_with fail
  refine (CND.out _ _ H1).mono ?_
  rintro en w1 ⟨rfl, H2⟩
  clear CND H1
  go_wp2_with fail
  refine (hRA.out _ _ H2).mono ?_
  rintro en w2 ⟨rfl, H3⟩
  clear H2 hRA
  obtain ⟨f, X, hf, HF, hback⟩ := ram_fr H3.p2
  have HB := Lib.hid hback
  have CC := Lib.hid (ramCount ((HF.alloc (.cells #[.int .i64 0] 3)).drop) 0 (.slice (some ⟨w2.heap.size, 0, none⟩) 1 1) (fun n => Reads.drewN (reads_lit1 w2 (.int .i64 0) 3)))
  rw [hC0] at CC
  have H3c : Hid (∀ w', Holds e w' (frH f M.fr :: X :: poolH pb tb rb S :: oH (.slice la L.length lc) L :: bts (.slice ba d.length bc) d :: R) → Holds e w' (poolH pb tb rb S :: ramH rb M :: bts (.slice ba d.length bc) d :: oH (.slice la L.length lc) L :: R)) := Lib.hid fun w' h => by
    have h2 : Holds e w' (ramH rb M :: poolH pb tb rb S :: oH (.slice la L.length lc) L :: bts (.slice ba d.length bc) d :: R) := HB.out w' h
    exact h2.swap.cons fun _ s => Sat.cons (fun _ => Sat.q1) s
  clear H3 HF hback HB
  obtain ⟨fl, hfl⟩ : ∃ fl, M.fr.free.length = fl := ⟨_, rfl⟩
  rw [hfl] at CC hf96
  obtain ⟨c3, hc3⟩ : ∃ c3, M.fr.count [3] = c3 := ⟨_, rfl⟩
  rw [hc3] at hFR hC3
  have HFL := Lib.hid hfl
  have HC3 := Lib.hid hc3
  clear hfl hc3 hC0
  go_wp2_with fail
  refine CC.out.mono ?_
  rintro en w3 ⟨rfl, H4⟩
  have H5 := H3c.out _ H4
  clear CC H4 H3c
  go_wp2_with fail
  refine (hFR.out _ _ H5).mono ?_
  rintro en w4 ⟨rfl, H6⟩
  clear H5
  have CAL := Lib.hid (poAlloc H6 hP (.slice ba d.length bc) d (fun w' h' => bts.reads h') (by omega))
  rw [alloc_bad hbad] at CAL
  have HK := Lib.hid hK
  clear hP hK
  by_cases h1 : d.length < 1
  · have h1i : (d.length : Int) < 1 := by omega
    go_wp2_with fail
    refine CAL.out.mono ?_
    rintro en w5 ⟨rfl, H7⟩
    clear CAL H6
    go_wp2_with fail
    go_ret2
    exact ⟨(_, L, M, S), rfl, Holds.mkPur ⟨HK.out, Keep.refl M⟩ (H7.imp fun _ s => (Take.there _ (Take.there _ (Take.there _ (Take.here _ _)))) _ s).d3⟩
  · have h1i : ¬ (d.length : Int) < 1 := by omega
    have h4i : (4096 : Int) < d.length := by omega
    go_wp2_with fail
    refine CAL.out.mono ?_
    rintro en w5 ⟨rfl, H7⟩
    clear CAL H6
    go_wp2_with fail
    go_ret2
    exact ⟨(_, L, M, S), rfl, Holds.mkPur ⟨HK.out, Keep.refl M⟩ (H7.imp fun _ s => (Take.there _ (Take.there _ (Take.there _ (Take.here _ _)))) _ s).d3⟩
set_option maxRecDepth 100000 in
set_option maxHeartbeats 2000000 in
theorem alloc20_no {vl vb : Value} {L : List OE} {d : List UInt8} (hK : Kept M S L) (h1d : 1 ≤ d.length) (h2d : d.length ≤ 4096) (hno : 512 ≤ S.tab.many ∨ M.fr.free.length < needP S d.length) (H : Holds e w (oH vl L :: poolH pb tb rb S :: ramH rb M :: bts vb d :: R)) :
    Calls Tryz.prog 28 #[.pointer (some ⟨pb, 0, none⟩), vl, vb] w (RetEx e (fun r : AR => .tuple #[r.1, .bool true]) (allocPost pb tb rb M R)) := by
  have H1 := H.swap
  have hP := hK.ok
  have hf96 := hP.pgs.fr.free96
  have hFR := Lib.hid fun (w' : World) (Y : List HP) (h : Holds e w' (poolH pb tb rb S :: Y)) => framesAny hP h
  have hRA := Lib.hid fun (w' : World) (Y : List HP) (h : Holds e w' (poolH pb tb rb S :: Y)) => retQ (poRAM h) h
  obtain ⟨la, lc, rfl⟩ := o_shape H
  obtain ⟨ba, bc, rfl⟩ := (bts.reads (H.imp fun _ s => (Take.there _ (Take.there _ (Take.there _ (Take.here _ _)))) _ s)).shape
  have hL512 := hK.len512
  have hC3 : M.fr.count [3] ≤ 96 := Nat.le_trans (List.length_filter_le _ _) hP.pgs.fr.n96
  have hC0 := free_count hP.pgs.fr
  clear H
  have hmn := hK.many
  obtain ⟨q, hq⟩ : ∃ q, needP S d.length = q := ⟨_, rfl⟩
  have hq4 : q ≤ 4 := by rw [← hq]; unfold needP; have := (cFrames_bd ((d.length - 1) / 64)).2; split <;> omega
  have CND : Hid (∀ w' Y, Holds e w' (poolH pb tb rb S :: Y) → Calls Tryz.prog 17 #[.pointer (some ⟨pb, 0, none⟩), .int .i64 d.length] w' (Ret e (.int .i64 q) (poolH pb tb rb S :: Y))) := Lib.hid fun w' Y h => by
    have h3 := poNeed h d.length h1d h2d (hP.bkok (by omega))
    rw [← hq]
    exact h3
  go_enter Tryz.func28, Tryz.ntmps28
  go_wp2_with fail
  refine (CND.out _ _ H1).mono ?_
  rintro en w1 ⟨rfl, H2⟩
  clear CND H1
  go_wp2_with fail
  refine (hRA.out _ _ H2).mono ?_
  rintro en w2 ⟨rfl, H3⟩
  clear H2 hRA
  obtain ⟨f, X, hf, HF, hback⟩ := ram_fr H3.p2
  have HB := Lib.hid hback
  have CC := Lib.hid (ramCount ((HF.alloc (.cells #[.int .i64 0] 3)).drop) 0 (.slice (some ⟨w2.heap.size, 0, none⟩) 1 1) (fun n => Reads.drewN (reads_lit1 w2 (.int .i64 0) 3)))
  rw [hC0] at CC
  have H3c : Hid (∀ w', Holds e w' (frH f M.fr :: X :: poolH pb tb rb S :: oH (.slice la L.length lc) L :: bts (.slice ba d.length bc) d :: R) → Holds e w' (poolH pb tb rb S :: ramH rb M :: bts (.slice ba d.length bc) d :: oH (.slice la L.length lc) L :: R)) := Lib.hid fun w' h => by
    have h2 : Holds e w' (ramH rb M :: poolH pb tb rb S :: oH (.slice la L.length lc) L :: bts (.slice ba d.length bc) d :: R) := HB.out w' h
    exact h2.swap.cons fun _ s => Sat.cons (fun _ => Sat.q1) s
  clear H3 HF hback HB
  obtain ⟨fl, hfl⟩ : ∃ fl, M.fr.free.length = fl := ⟨_, rfl⟩
  rw [hfl] at CC hf96
  obtain ⟨c3, hc3⟩ : ∃ c3, M.fr.count [3] = c3 := ⟨_, rfl⟩
  rw [hc3] at hFR hC3
  have HFL := Lib.hid hfl
  have HC3 := Lib.hid hc3
  clear hfl hc3 hC0
  go_wp2_with fail
  refine CC.out.mono ?_
  rintro en w3 ⟨rfl, H4⟩
  have H5 := H3c.out _ H4
  clear CC H4 H3c
  go_wp2_with fail
  refine (hFR.out _ _ H5).mono ?_
  rintro en w4 ⟨rfl, H6⟩
  clear H5
  have CAL := Lib.hid (poAlloc H6 hP (.slice ba d.length bc) d (fun w' h' => bts.reads h') (by omega))
  rw [alloc_no h1d h2d hno] at CAL
  rw [hq, HFL.out] at hno
  have HK := Lib.hid hK
  have hd1 : ¬ (d.length : Int) < 1 := by omega
  have hd4 : ¬ (4096 : Int) < d.length := by omega
  clear hP hK hq
  by_cases hqf : fl < q
  · have hqi : (fl : Int) < q := by omega
    go_wp2_with fail
    refine CAL.out.mono ?_
    rintro en w5 ⟨rfl, H7⟩
    clear CAL H6
    go_wp2_with fail
    refine (hFR.out _ _ H7).mono ?_
    rintro en w6 ⟨rfl, H8⟩
    clear H7
    go_wp2_with fail
    go_ret2
    exact ⟨(_, L, M, S), rfl, Holds.mkPur ⟨HK.out, Keep.refl M⟩ (H8.imp fun _ s => (Take.there _ (Take.there _ (Take.there _ (Take.here _ _)))) _ s).d3⟩
  · have hqi : ¬ (fl : Int) < q := by omega
    have hl512 : ((L.length : Int) == 512) = true := by simp; omega
    go_wp2_with fail
    refine CAL.out.mono ?_
    rintro en w5 ⟨rfl, H7⟩
    clear CAL H6
    go_wp2_with fail
    refine (hFR.out _ _ H7).mono ?_
    rintro en w6 ⟨rfl, H8⟩
    clear H7
    go_wp2_with fail
    go_ret2
    exact ⟨(_, L, M, S), rfl, Holds.mkPur ⟨HK.out, Keep.refl M⟩ (H8.imp fun _ s => (Take.there _ (Take.there _ (Take.there _ (Take.here _ _)))) _ s).d3⟩
set_option maxRecDepth 100000 in
set_option maxHeartbeats 2000000 in
theorem alloc20_ok {vl vb : Value} {L : List OE} {d : List UInt8} (hK : Kept M S L) (h1d : 1 ≤ d.length) (h2d : d.length ≤ 4096) (hm : S.tab.many < 512) (hno : needP S d.length ≤ M.fr.free.length) (H : Holds e w (oH vl L :: poolH pb tb rb S :: ramH rb M :: bts vb d :: R)) :
    Calls Tryz.prog 28 #[.pointer (some ⟨pb, 0, none⟩), vl, vb] w (RetEx e (fun r : AR => .tuple #[r.1, .bool true]) (allocPost pb tb rb M R)) := by
  have H1 := H.swap
  have hP := hK.ok
  have hf96 := hP.pgs.fr.free96
  have hFR := Lib.hid fun (w' : World) (Y : List HP) (h : Holds e w' (poolH pb tb rb S :: Y)) => framesAny hP h
  have hRA := Lib.hid fun (w' : World) (Y : List HP) (h : Holds e w' (poolH pb tb rb S :: Y)) => retQ (poRAM h) h
  obtain ⟨la, lc, rfl⟩ := o_shape H
  obtain ⟨ba, bc, rfl⟩ := (bts.reads (H.imp fun _ s => (Take.there _ (Take.there _ (Take.there _ (Take.here _ _)))) _ s)).shape
  have hL512 := hK.len512
  have hC3 : M.fr.count [3] ≤ 96 := Nat.le_trans (List.length_filter_le _ _) hP.pgs.fr.n96
  have hC0 := free_count hP.pgs.fr
  clear H
  have hmn := hK.many
  obtain ⟨x, A⟩ := alloc_law hP h1d h2d hm hno
  have hAF := alloc_frames hP h1d h2d hm hno
  have hres := A.res
  have hx1 := A.h1
  have hx2 := A.h2
  obtain ⟨hK2, hAt⟩ := hK.alloc A
  have hkeep := A.keep
  have hP2 := A.ok
  obtain ⟨q, hq⟩ : ∃ q, needP S d.length = q := ⟨_, rfl⟩
  have hq4 : q ≤ 4 := by rw [← hq]; unfold needP; have := (cFrames_bd ((d.length - 1) / 64)).2; split <;> omega
  have CND : Hid (∀ w' Y, Holds e w' (poolH pb tb rb S :: Y) → Calls Tryz.prog 17 #[.pointer (some ⟨pb, 0, none⟩), .int .i64 d.length] w' (Ret e (.int .i64 q) (poolH pb tb rb S :: Y))) := Lib.hid fun w' Y h => by
    have h3 := poNeed h d.length h1d h2d (hP.bkok (by omega))
    rw [← hq]
    exact h3
  go_enter Tryz.func28, Tryz.ntmps28
  go_wp2_with fail
  refine (CND.out _ _ H1).mono ?_
  rintro en w1 ⟨rfl, H2⟩
  clear CND H1
  go_wp2_with fail
  refine (hRA.out _ _ H2).mono ?_
  rintro en w2 ⟨rfl, H3⟩
  clear H2 hRA
  obtain ⟨f, X, hf, HF, hback⟩ := ram_fr H3.p2
  have HB := Lib.hid hback
  have CC := Lib.hid (ramCount ((HF.alloc (.cells #[.int .i64 0] 3)).drop) 0 (.slice (some ⟨w2.heap.size, 0, none⟩) 1 1) (fun n => Reads.drewN (reads_lit1 w2 (.int .i64 0) 3)))
  rw [hC0] at CC
  have H3c : Hid (∀ w', Holds e w' (frH f M.fr :: X :: poolH pb tb rb S :: oH (.slice la L.length lc) L :: bts (.slice ba d.length bc) d :: R) → Holds e w' (poolH pb tb rb S :: ramH rb M :: bts (.slice ba d.length bc) d :: oH (.slice la L.length lc) L :: R)) := Lib.hid fun w' h => by
    have h2 : Holds e w' (ramH rb M :: poolH pb tb rb S :: oH (.slice la L.length lc) L :: bts (.slice ba d.length bc) d :: R) := HB.out w' h
    exact h2.swap.cons fun _ s => Sat.cons (fun _ => Sat.q1) s
  clear H3 HF hback HB
  obtain ⟨fl, hfl⟩ : ∃ fl, M.fr.free.length = fl := ⟨_, rfl⟩
  rw [hfl] at CC hf96
  obtain ⟨c3, hc3⟩ : ∃ c3, M.fr.count [3] = c3 := ⟨_, rfl⟩
  rw [hc3] at hFR hC3
  have HFL := Lib.hid hfl
  have HC3 := Lib.hid hc3
  clear hfl hc3 hC0
  go_wp2_with fail
  refine CC.out.mono ?_
  rintro en w3 ⟨rfl, H4⟩
  have H5 := H3c.out _ H4
  clear CC H4 H3c
  go_wp2_with fail
  refine (hFR.out _ _ H5).mono ?_
  rintro en w4 ⟨rfl, H6⟩
  clear H5
  have CAL := Lib.hid (poAlloc H6 hP (.slice ba d.length bc) d (fun w' h' => bts.reads h') (by omega))
  rw [hq, HFL.out] at hno
  rw [hq, HC3.out] at hAF
  have HKP := Lib.hid hkeep
  have HK2 := Lib.hid hK2
  have HAT := Lib.hid hAt
  have HAF := Lib.hid hAF
  have hd1 : ¬ (d.length : Int) < 1 := by omega
  have hd4 : ¬ (4096 : Int) < d.length := by omega
  have hqi : ¬ (fl : Int) < q := by omega
  have hl512 : ((L.length : Int) == 512) = false := by simp; omega
  have hL6 : L.length ≤ 1000000 := by omega
  clear hP hK hq A hkeep hK2 hAt hAF hm hmn
  obtain ⟨r, hr⟩ : ∃ r, S.alloc M d = r := ⟨_, rfl⟩
  rw [hr] at CAL HK2 HAF HKP hres hP2
  clear hr
  obtain ⟨⟨r1, r2⟩, M2, S2⟩ := r
  dsimp only at CAL HK2 HAF HKP hres hP2
  cases hres
  have hFR2 := Lib.hid fun (w' : World) (Y : List HP) (h : Holds e w' (poolH pb tb rb S2 :: Y)) => framesAny hP2 h
  rw [HAF.out] at hFR2
  have CAT : Hid (∀ w' Y, Holds e w' (oH (.slice la L.length lc) L :: Y) → Calls Tryz.prog 64 #[.slice la L.length lc, .int .i64 x] w' (Ret e (.int .i64 (-1)) (oH (.slice la L.length lc) L :: Y))) := Lib.hid fun w' Y h => by
    have := r20At L (.slice la L.length lc) x hL6 h
    rw [HAT.out] at this
    exact this
  clear hP2
  go_wp2_with fail
  refine CAL.out.mono ?_
  rintro en w5 ⟨rfl, H7⟩
  have H8 : Holds e w5 (oH (.slice la L.length lc) L :: poolH pb tb rb S2 :: ramH rb M2 :: bts (.slice ba d.length bc) d :: R) := H7.imp fun _ s => (Take.there _ (Take.there _ (Take.there _ (Take.here _ _)))) _ s
  clear CAL H6 H7
  go_wp2_with fail
  refine (CAT.out _ _ H8).mono ?_
  rintro en w6 ⟨rfl, H9⟩
  clear H8 CAT
  go_wp2_with fail
  refine (hFR2.out _ _ H9.swap).mono ?_
  rintro en w7 ⟨rfl, H10⟩
  have hcq : (((c3 + q : Nat) : Int) == (c3 : Int) + (q : Int)) = true := by simp
  have CPT := Lib.hid (r20Put (R := bts (.slice ba d.length bc) d :: poolH pb tb rb S2 :: ramH rb M2 :: R) L (.slice la L.length lc) x (.slice ba d.length bc) d hL6 (by omega) (fun w' h' => bts.reads h') (H10.swap.imp fun _ s => Sat.cons (fun _ s => (Take.there _ (Take.there _ (Take.here _ _))) _ s) s))
  clear H9 H10 hFR2
  go_wp2_with fail
  refine CPT.out.mono ?_
  rintro en w8 ⟨vp, rfl, H11⟩
  clear CPT
  go_wp2_with fail
  go_ret2
  exact ⟨(vp, L ++ [((x : Int), d)], M2, S2), rfl, Holds.mkPur ⟨HK2.out, HKP.out⟩ H11.d1⟩
end
end Go.Proofs.YtheblkofemobdaaGreat

/-
  gunnylaw20: alloc as a whole; shift.
-/
namespace Go.Proofs.YtheblkofemobdaaGreat
open Go.RowKit

theorem shift_count {M : RamS} {S : PoolS} (hP : PoolOk M S) (x : Int) : (S.shift1 M x).2.1.fr.count [3] ≤ M.fr.count [3] := by
  cases hx : S.tab.inb x with
  | false => rw [shift_no1 hx]; exact Nat.le_refl _
  | true =>
    cases hb : shiftTo S x with
    | none => rw [shift_no2 hb]; exact Nat.le_refl _
    | some m =>
      obtain ⟨n, ob, ln, g, g2, k, L, V, hg2, hmn, hm4, hI, hc2, hbb, hgo, ⟨g', hg', ho'⟩, e0, F⟩ := shift_law hP hx hb
      rw [e0]
      dsimp only
      have hfr : (shiftS M S g g2 x n ob ln m k).1.fr = M.fr := by
        unfold shiftS
        dsimp only
        unfold givePg shiftM putPg
        dsimp only
        rw [wr_fr, wr_fr]
        rfl
      have hK := (F.ok.pgs.frames)
      unfold noteF
      rw [hg']
      dsimp only
      split
      · rw [hfr]; exact Nat.le_refl _
      · have h2 := count_row (F := (shiftS M S g g2 x n ob ln m k).1.fr) (F' := ((shiftS M S g g2 x n ob ln m k).1.giveL g'.row).fr) (row := g'.row) (u := 3) (v := 0) (giveL_len _ _) ho'.nd (fun r hr => ⟨ho'.rowIn r hr, ho'.own r hr⟩) (giveL_own ho'.rowIn) [3]
        simp at h2
        dsimp only
        rw [hfr] at h2
        omega
section
variable {e : Env} {w : World} {R : List HP} {pb tb rb : Nat} {S : PoolS} {M : RamS}
theorem alloc20 {vl vb : Value} {L : List OE} {d : List UInt8} (hK : Kept M S L) (hdl : d.length ≤ 9000) (H : Holds e w (oH vl L :: poolH pb tb rb S :: ramH rb M :: bts vb d :: R)) :
    Calls Tryz.prog 28 #[.pointer (some ⟨pb, 0, none⟩), vl, vb] w (RetEx e (fun r : AR => .tuple #[r.1, .bool true]) (allocPost pb tb rb M R)) := by
  by_cases h0 : d.length < 1 ∨ 4096 < d.length
  · exact alloc20_bad hK hdl h0 H
  · by_cases h1 : 512 ≤ S.tab.many ∨ M.fr.free.length < needP S d.length
    · exact alloc20_no hK (by omega) (by omega) h1 H
    · exact alloc20_ok hK (by omega) (by omega) (by omega) (by omega) H
def shiftPost (pb tb rb : Nat) (M : RamS) (vl : Value) (L : List OE) (R : List HP) (q : RamS × PoolS) : List HP := pur (Kept q.1 q.2 L ∧ Keep M q.1) :: oH vl L :: poolH pb tb rb q.2 :: ramH rb q.1 :: R
set_option maxRecDepth 100000 in
set_option maxHeartbeats 2000000 in
theorem shift20 {vl : Value} {L : List OE} (hK : Kept M S L) (x : Int) (H : Holds e w (oH vl L :: poolH pb tb rb S :: ramH rb M :: R)) :
    Calls Tryz.prog 29 #[.pointer (some ⟨pb, 0, none⟩), vl, .int .i64 x] w (RetEx e (fun _ : RamS × PoolS => .bool true) (shiftPost pb tb rb M vl L R)) := by
  have hP := hK.ok
  have hL6 : L.length ≤ 1000000 := by have := hK.len512; omega
  have hC3 : M.fr.count [3] ≤ 96 := Nat.le_trans (List.length_filter_le _ _) hP.pgs.fr.n96
  obtain ⟨la, lc, rfl⟩ := o_shape H
  have hFR := Lib.hid fun (w' : World) (Y : List HP) (h : Holds e w' (poolH pb tb rb S :: Y)) => framesAny hP h
  cases hx : S.tab.inb x with
  | false =>
    have CW := poWhere H.swap x
    rw [show S.tab.get x = (PlaceS.zero, false) by unfold TabS.get; rw [hx]; rfl] at CW
    unfold PlaceS.val PlaceS.zero at CW
    dsimp only at CW
    have CW := Lib.hid CW
    have CS : Hid (∀ w' Y, Holds e w' (poolH pb tb rb S :: Y) → Calls Tryz.prog 21 #[.pointer (some ⟨pb, 0, none⟩), .int .i64 x] w' (Ret e (.bool false) (poolH pb tb rb S :: Y))) := Lib.hid fun w' Y h => poShift_no (p := PlaceS.zero) h (by unfold TabS.get; rw [hx]; rfl)
    have CA : Hid (∀ w' Y, Holds e w' (oH (.slice la L.length lc) L :: Y) → Calls Tryz.prog 64 #[.slice la L.length lc, .int .i64 x] w' (Ret e (.int .i64 (-1)) (oH (.slice la L.length lc) L :: Y))) := Lib.hid fun w' Y h => by
      have := r20At L (.slice la L.length lc) x hL6 h
      rw [hK.no hx] at this
      exact this
    have HK := Lib.hid hK
    clear hP hK H hx
    go_enter Tryz.func29, Tryz.ntmps29
    go_wp2_with fail
    refine CW.out.mono ?_
    rintro en w1 ⟨rfl, H1⟩
    have H2 := (H1.alloc (.cells #[.int .i64 0, .int .i64 0, .int .i64 0] 51)).drop
    clear CW H1
    go_wp2_with fail
    refine (hFR.out _ _ H2).mono ?_
    rintro en w2 ⟨rfl, H3⟩
    clear H2 hFR
    go_wp2_with fail
    refine (CS.out _ _ H3).mono ?_
    rintro en w3 ⟨rfl, H4⟩
    clear H3 CS
    go_wp2_with fail
    refine (CA.out _ _ H4.swap).mono ?_
    rintro en w4 ⟨rfl, H5⟩
    clear H4 CA
    go_wp2_with fail
    go_ret
    exact ⟨(M, S), rfl, Holds.mkPur ⟨HK.out, Keep.refl M⟩ H5⟩
  | true =>
    obtain ⟨n, ob, ln, g, V, hxx, hx1, hx2⟩ := hP.at hx
    have CW := poWhere H.swap x
    rw [show S.tab.get x = (⟨(n : Nat), (ob : Nat), (ln : Nat)⟩, true) by unfold TabS.get; rw [if_pos hx, V.eq]] at CW
    unfold PlaceS.val at CW
    dsimp only at CW
    have CW := Lib.hid CW
    obtain ⟨c, hc⟩ : ∃ c, (ln - 1) / 64 = c := ⟨_, rfl⟩
    have hl1 := V.l1
    have hl2 := V.l2
    have hc64 : c < 64 := by omega
    have hto : shiftTo S x = bestB (S.bks c) [(n : Int)] := by unfold shiftTo; rw [V.eq, clsP_nat, hc]
    have hpl := hP.len
    have hn512 : n < 512 := by have := (List.getElem?_eq_some_iff.1 V.pg).1; omega
    have CSH := Lib.hid fun (w' : World) (Y : List HP) (h : Holds e w' (poolH pb tb rb S :: Y)) => poSheets h (by omega) hP.rows
    have CBE : Hid (∀ w' v Y, Holds e w' (shH v (sheetsOf S.pgs 0) :: Y) → Calls Tryz.prog 15 #[v, .int .i64 c, .int .i64 n] w' (Ret e (.int .i64 (bestInt (shiftTo S x))) (shH v (sheetsOf S.pgs 0) :: Y))) := Lib.hid fun w' v Y h => by
      rw [hto]
      exact bestPool hP h hc64 (n : Int)
    have HD0 : Hid (IntKind.i64.wrap ((ln : Int) - 1) = (ln : Int) - 1 ∧ ((ln : Int) - 1).tdiv 64 = (c : Int) ∧ ((ln : Int) - 1) / 64 = (c : Int) ∧ IntKind.i64.wrap (c : Int) = (c : Int)) := Lib.hid ⟨IntWalk.i64_in _ (by omega), by rw [Int.tdiv_eq_ediv_of_nonneg (by omega)]; omega, by omega, IntWalk.i64_in _ (by omega)⟩
    have HK := Lib.hid hK
    have HPO := Lib.hid hP
    have HV := Lib.hid V
    have HX := Lib.hid hx
    obtain ⟨bx, hbx⟩ : ∃ bx : Nat, bx = bx := ⟨0, rfl⟩
    clear hP hK H hx hto hpl V hc hbx bx hxx hx1 hx2
    go_enter Tryz.func29, Tryz.ntmps29
    go_wp2_with fail
    refine CW.out.mono ?_
    rintro en w1 ⟨rfl, H1⟩
    have H2 := (H1.alloc (.cells #[.int .i64 n, .int .i64 ob, .int .i64 ln] 51))
    obtain ⟨bx, hbx⟩ : ∃ bx, w1.heap.size = bx := ⟨_, rfl⟩
    rw [hbx] at H2
    clear CW H1
    go_wp2_with fail
    refine (hFR.out _ _ H2.swap).mono ?_
    rintro en w2 ⟨rfl, H3⟩
    have HKC : Hid (∀ w' X Y, Holds e w' (X :: pts bx (.cells #[.int .i64 n, .int .i64 ob, .int .i64 ln] 51 (0, 0)) :: Y) → w'.cell? ⟨bx, 0, none⟩ = some (.int .i64 n) ∧ w'.cell? ⟨bx, 2, none⟩ = some (.int .i64 ln) ∧ w'.cell? ⟨bx, 1, none⟩ = some (.int .i64 ob)) := Lib.hid fun w' X Y h => ⟨h.swap.cells 0, h.swap.cells 2, h.swap.cells 1⟩
    clear H2
    go_wp2_with fail
    obtain ⟨j0, j2, j1⟩ := HKC.out _ _ _ H3
    have HD := H3.drawn (w2.drawn + 1)
    obtain ⟨hd1, hd2, hd3, hd4⟩ := HD0.out
    first | go_region_held3 (fun w' => w'.cell? ⟨bx, 0, none⟩ = some (.int .i64 n) ∧ w'.cell? ⟨bx, 2, none⟩ = some (.int .i64 ln))
      (first | exact ⟨(HKC.out _ _ _ (by assumption)).1, (HKC.out _ _ _ (by assumption)).2.1⟩ | exact ⟨(HKC.out _ _ _ (Holds.drop (by assumption))).1, (HKC.out _ _ _ (Holds.drop (by assumption))).2.1⟩)
      (first
        | (go_at_call 14; refine (CSH.out _ _ (by assumption)).mono ?_; rintro e w4 ⟨vs, rfl, HN⟩)
        | (go_at_call 15; refine (CBE.out _ _ _ HN).mono ?_; rintro e w5 ⟨rfl, HB⟩)) | fail
    all_goals
      have H4 := HB.drop
      clear HN HB HD H3 CSH CBE j0 j1 j2 hd1 hd2 hd3 hd4
      have H5 := H4.p3.swap
      have CSF := Lib.hid (poShift H5 HPO.out x)
      cases hb : shiftTo S x with
      | none =>
        rw [shift_no2 hb] at CSF
        have CW2 : Hid (∀ w' Y, Holds e w' (poolH pb tb rb S :: Y) → Calls Tryz.prog 19 #[.pointer (some ⟨pb, 0, none⟩), .int .i64 x] w' (Ret e (.tuple #[.agg #[.int .i64 n, .int .i64 ob, .int .i64 ln], .bool true]) (poolH pb tb rb S :: Y))) := Lib.hid fun w' Y h => by
          have h1 := poWhere h x
          rw [show S.tab.get x = (⟨(n : Nat), (ob : Nat), (ln : Nat)⟩, true) by unfold TabS.get; rw [if_pos HX.out, HV.out.eq]] at h1
          exact h1
        have hgt : ¬ (M.fr.count [3] : Int) < (M.fr.count [3] : Int) := by omega
        clear H4 hb
        generalize M.fr.count [3] = c3 at *
        unfold bestInt
        dsimp only at CSF ⊢
        go_wp2_with fail
        refine CSF.out.mono ?_
        rintro en w6 ⟨rfl, H6⟩
        clear H5 CSF
        go_wp2_with fail
        refine (CW2.out _ _ H6).mono ?_
        rintro en w7 ⟨rfl, H7⟩
        have H8 := H7.alloc (.cells #[.int .i64 n, .int .i64 ob, .int .i64 ln] 51)
        obtain ⟨by', hby⟩ : ∃ by', w7.heap.size = by' := ⟨_, rfl⟩
        rw [hby] at H8
        clear H6 H7 CW2
        go_wp2_with fail
        refine (hFR.out _ _ H8.swap).mono ?_
        rintro en w8 ⟨rfl, H9⟩
        have p0 := H9.swap.cells 0
        have p1 := H9.swap.cells 1
        have p2 := H9.swap.cells 2
        have hz := H9.p3
        have s0 := hz.cells 0
        have s1 := hz.cells 1
        have s2 := hz.cells 2
        have hAg := H9
        clear H8 hz
        go_wp2_with fail
        go_ret
        refine ⟨(M, S), rfl, Holds.mkPur ⟨HK.out, Keep.refl M⟩ ?_⟩
        exact hAg.d1.d2.p2
      | some m =>
        obtain ⟨n', ob', ln', g', g2', k', L', _, _, _, _, _, _, _, _, _, e0, F⟩ := shift_law HPO.out HX.out hb
        have hcnt := shift_count HPO.out x
        rw [e0] at CSF F hcnt
        dsimp only at CSF F hcnt
        generalize noteF (shiftS M S g' g2' x n' ob' ln' m k').1 (shiftS M S g' g2' x n' ob' ln' m k').2 n' = q at *
        obtain ⟨M2, S2⟩ := q
        dsimp only at CSF F hcnt
        have hK2 := HK.out.shift F
        obtain ⟨k2, hpl2⟩ := F.place
        have hln : (S.tab.all x.toNat).len = (ln : Int) := by rw [HV.out.eq]
        rw [hln] at hpl2
        dsimp only at hpl2 hK2
        have hget : S2.tab.get x = (⟨(m : Nat), (k2 : Nat), (ln : Nat)⟩, true) := by
          obtain ⟨i1, i2, _⟩ := TabS.inb_yes HX.out
          unfold TabS.get TabS.inb
          rw [hpl2, decide_eq_true ⟨i1, i2, place_nz _ _ hl1⟩]
          rfl
        have CW2 : Hid (∀ w' Y, Holds e w' (poolH pb tb rb S2 :: Y) → Calls Tryz.prog 19 #[.pointer (some ⟨pb, 0, none⟩), .int .i64 x] w' (Ret e (.tuple #[.agg #[.int .i64 m, .int .i64 k2, .int .i64 ln], .bool true]) (poolH pb tb rb S2 :: Y))) := Lib.hid fun w' Y h => by
          have h1 := poWhere h x
          rw [hget] at h1
          exact h1
        have hFR2 := Lib.hid fun (w' : World) (Y : List HP) (h : Holds e w' (poolH pb tb rb S2 :: Y)) => framesAny hK2.ok h
        have HR2 : Hid (Kept M2 S2 L ∧ Keep M M2) := Lib.hid ⟨hK2, F.keep⟩
        have hgt : ¬ (M.fr.count [3] : Int) < (M2.fr.count [3] : Int) := by omega
        have hge : (0 : Int) ≤ (m : Int) := by omega
        clear H4 hb F hK2 hpl2 hln hget e0 hFR
        have hC32 : M2.fr.count [3] ≤ 96 := by omega
        clear hcnt
        generalize M.fr.count [3] = c3 at *
        generalize M2.fr.count [3] = c4 at *
        unfold bestInt
        dsimp only
        go_wp2_with fail
        refine CSF.out.mono ?_
        rintro en w6 ⟨rfl, H6⟩
        clear H5 CSF
        go_wp2_with fail
        refine (CW2.out _ _ H6).mono ?_
        rintro en w7 ⟨rfl, H7⟩
        have H8 := H7.alloc (.cells #[.int .i64 m, .int .i64 k2, .int .i64 ln] 51)
        obtain ⟨by', hby⟩ : ∃ by', w7.heap.size = by' := ⟨_, rfl⟩
        rw [hby] at H8
        clear H6 H7 CW2
        go_wp2_with fail
        refine (hFR2.out _ _ H8.swap).mono ?_
        rintro en w8 ⟨rfl, H9⟩
        have p0 := H9.swap.cells 0
        have p1 := H9.swap.cells 1
        have p2 := H9.swap.cells 2
        have hz := H9.p3
        have s0 := hz.cells 0
        have s1 := hz.cells 1
        have s2 := hz.cells 2
        have hAg := H9
        clear H8 hz
        go_wp2_with fail
        go_ret
        refine ⟨(M2, S2), rfl, Holds.mkPur HR2.out ?_⟩
        exact hAg.d1.d2.p2
end
end Go.Proofs.YtheblkofemobdaaGreat

/-
  gunnylaw20: sheets.
-/
namespace Go.Proofs.YtheblkofemobdaaGreat
open Go.RowKit

def bools (l : List Bool) : List Value := l.map Value.bool
def objsL (l : List (Nat × PgS)) : List Int := (List.range 64).map fun c : Nat => ((objectsOf l (c : Int) : Nat) : Int)
def mineL (l : List Nat) : List Bool := (List.range 96).map fun j => decide (j ∈ l)
theorem objsL_get (l : List (Nat × PgS)) {c : Nat} (hc : c < 64) : (objsL l)[c]? = some ((objectsOf l (c : Int) : Nat) : Int) := by
  unfold objsL
  rw [List.getElem?_map, List.getElem?_range hc]
  rfl
theorem mineL_get (l : List Nat) {j : Nat} (hj : j < 96) : (mineL l)[j]? = some (decide (j ∈ l)) := by
  unfold mineL
  rw [List.getElem?_map, List.getElem?_range hj]
  rfl
theorem objectsOf_snoc (l : List (Nat × PgS)) (p : Nat × PgS) (c : Int) : objectsOf (l ++ [p]) c = objectsOf l c + if (p.2.cls : Int) = c then cnt p.2.set else 0 := by
  simp [objectsOf]
theorem objsL_snoc (l : List (Nat × PgS)) (p : Nat × PgS) (hc : p.2.cls < 64) : objsL (l ++ [p]) = (objsL l).set p.2.cls (((objectsOf l (p.2.cls : Int) : Nat) : Int) + (cnt p.2.set : Int)) := by
  apply List.ext_getElem?
  intro i
  rw [List.getElem?_set]
  have hl : (objsL l).length = 64 := by simp [objsL]
  have hl2 : (objsL (l ++ [p])).length = 64 := by simp [objsL]
  by_cases hi : i < 64
  · rw [objsL_get _ hi, objectsOf_snoc]
    by_cases e : p.2.cls = i
    · subst e
      rw [if_pos rfl, if_pos rfl, if_pos (by omega)]
      congr 1
    · rw [if_neg e, if_neg (by omega), objsL_get _ hi]; rfl
  · rw [List.getElem?_eq_none (by omega), if_neg (by omega), List.getElem?_eq_none (by omega)]
theorem mineL_snoc (l : List Nat) (n : Nat) (hn : n < 96) : mineL (l ++ [n]) = (mineL l).set n true := by
  apply List.ext_getElem?
  intro i
  rw [List.getElem?_set]
  have hl : (mineL l).length = 96 := by simp [mineL]
  have hl2 : (mineL (l ++ [n])).length = 96 := by simp [mineL]
  by_cases hi : i < 96
  · rw [mineL_get _ hi]
    by_cases e : n = i
    · subst e
      rw [if_pos rfl, if_pos (by omega)]
      simp
    · rw [if_neg e, mineL_get _ hi]
      congr 1
      simp only [List.mem_append, List.mem_singleton, decide_eq_decide]
      constructor
      · rintro (h | h)
        · exact h
        · exact absurd h.symm e
      · exact .inl
  · rw [List.getElem?_eq_none (by omega), if_neg (by omega), List.getElem?_eq_none (by omega)]
theorem bools_set (l : List Bool) (i : Nat) (b : Bool) : (bools l).toArray.setIfInBounds i (.bool b) = (bools (l.set i b)).toArray := by
  simp [bools, List.map_set]
theorem boolsA_get {l : List Bool} {i : Nat} {b : Bool} (h : l[i]? = some b) : (bools l).toArray[i]? = some (.bool b) := by simp [bools, h]
theorem intsA_getS {l : List Int} {i : Nat} {b : Int} (h : l[i]? = some b) : (ints l).toArray[i]? = some (.int .i64 b) := by simp [ints, h]
theorem ints_getS {l : List Int} {i : Nat} {x : Int} (h : l[i]? = some x) : (ints l)[i]? = some (.int .i64 x) := by simp [ints, h]
structure SheetF (M : RamS) (p : Nat × PgS) : Prop where
  cls : p.2.cls < 64
  len : p.2.row.length = cFrames p.2.cls
  set : p.2.set.length = cObjects p.2.cls
  pos : 0 < cnt p.2.set
  own : ∀ r ∈ p.2.row, r < 96 ∧ M.fr.own (r : Int) = 3
theorem PoolOk.sheetF {M : RamS} {S : PoolS} (h : PoolOk M S) {p : Nat × PgS} (hp : p ∈ sheetsOf S.pgs 0) : SheetF M p ∧ p.1 < 512 := by
  obtain ⟨h1, Lf, hI⟩ := h.sheet hp
  have h2 := h.pgs.fr.n96
  have h3 := h.len
  have h4 := (List.getElem?_eq_some_iff.1 h1).1
  exact ⟨⟨hI.ok.cls, hI.ok.len, hI.ok.set, h.pos _ _ h1, fun r hr => ⟨by have := hI.ok.rowIn r hr; omega, hI.ok.own r hr⟩⟩, by omega⟩
theorem z96 : Tryz.zeroCells136 = (bools (mineL [])).toArray := by kernel_rfl
theorem z64 : (List.replicate 64 (Value.int .i64 0)).toArray = (ints (objsL [])).toArray := by kernel_rfl
def shObj (l : List (Nat × PgS)) : Obj := .cells (ints (objsL l)).toArray 135 (0, 0)
def shMine (l : List Nat) : Obj := .cells (bools (mineL l)).toArray 136 (0, 0)
section
variable {e : Env} {w : World} {R : List HP} {pb tb rb : Nat} {S : PoolS} {M : RamS}
set_option maxRecDepth 100000 in
set_option maxHeartbeats 4000000 in
theorem sheets20 {vl : Value} {L : List OE} (hK : Kept M S L) (H : Holds e w (poolH pb tb rb S :: ramH rb M :: oH vl L :: R)) :
    Calls Tryz.prog 66 #[.pointer (some ⟨pb, 0, none⟩), vl] w (Ret e (.bool true) (poolH pb tb rb S :: ramH rb M :: oH vl L :: R)) := by
  have hP := hK.ok
  have hpl := hP.len
  have hsl := sheetsOf_le S.pgs 0
  obtain ⟨la, lc, rfl⟩ := o_shape H.p2
  have CSH := Lib.hid (poSheets H (by omega) hP.rows)
  have HK := Lib.hid hK
  obtain ⟨Ls, hLs⟩ : ∃ Ls, sheetsOf S.pgs 0 = Ls := ⟨_, rfl⟩
  rw [hLs] at CSH hsl
  have HLS := Lib.hid hLs
  have hls : Ls.length ≤ 512 := by omega
  clear hK hpl hsl hLs H
  go_enter Tryz.func66, Tryz.ntmps66
  go_wp2_with fail
  refine CSH.out.mono ?_
  rintro en w1 ⟨v, rfl, H1⟩
  obtain ⟨sa, sc, Q, rfl, hQ, H2⟩ := sh_open H1
  have hql : Q.length = Ls.length := by rw [← hQ, List.length_map]
  rw [hql] at H2
  have HQ := Lib.hid hQ
  have HQL := Lib.hid hql
  clear CSH H1 hQ hql
  have HSF := Lib.hid fun p (hp : p ∈ Ls) => hP.sheetF (HLS.out ▸ hp)
  have HAS : Hid ((Ls.map (·.1)).Pairwise (· < ·)) := Lib.hid (HLS.out ▸ (sheets_asc S.pgs 0).1)
  have HND : Hid (rowsOf Ls).Nodup := Lib.hid (HLS.out ▸ rows_nd hP.pgs)
  have H3 := Lib.hid ((H2.alloc (.cells (List.replicate 64 (Value.int .i64 0)).toArray 135)).alloc (.cells Tryz.zeroCells136 136)).swap
  obtain ⟨b7, hb7⟩ : ∃ b7, w1.heap.size = b7 := ⟨_, rfl⟩
  have H4 : Holds e ((w1.alloc (.cells (List.replicate 64 (Value.int .i64 0)).toArray 135)).alloc (.cells Tryz.zeroCells136 136)) (pts b7 (shObj []) :: pts (b7 + 1) (shMine []) :: row (.slice sa Ls.length sc) 45 5 Ls.length (Q.flatMap shCells) :: all shRow Q :: poolH pb tb rb S :: ramH rb M :: oH (.slice la L.length lc) L :: R) := by
    have h := H3.out
    rw [heap_alloc1, hb7] at h
    unfold shObj shMine
    rw [← z96, ← z64]
    exact h
  have hP' := Lib.hid hP
  clear H2 H3 hP
  go_wp2_with fail
  go_loopw [6, 9] (fun fr i wr => ∃ k, k ≤ Ls.length ∧ i = .int .i64 (k : Nat) ∧ fr = .int .i64 (framesOf (Ls.take k)) ∧ Holds e wr (pts b7 (shObj (Ls.take k)) :: pts (b7 + 1) (shMine (rowsOf (Ls.take k))) :: row (.slice sa Ls.length sc) 45 5 Ls.length (Q.flatMap shCells) :: all shRow Q :: poolH pb tb rb S :: ramH rb M :: oH (.slice la L.length lc) L :: R)) (fun _ i _ => Ls.length - (intOf i).toNat)
  case atStart => exact ⟨0, by omega, rfl, rfl, H4⟩
  case round =>
    obtain ⟨k, hk, rfl, rfl, HX⟩ := hrel
    clear H4
    by_cases hlt : k < Ls.length
    · obtain ⟨q, hq⟩ : ∃ q, Q[k]? = some q := ⟨_, List.getElem?_eq_getElem (by rw [HQL.out]; exact hlt)⟩
      have hLk : Ls[k]? = some q.1 := by rw [← HQ.out, List.getElem?_map, hq]; rfl
      obtain ⟨F, hp512⟩ := HSF.out q.1 (List.mem_of_getElem? hLk)
      obtain ⟨g0, o0, rfl, _⟩ := (row.reads HX.p2).at (by omega)
      have HCE := Lib.hid fun (w' : World) (j : Nat) (q : ShQ) (X Y : HP) (Z : List HP) (h' : Holds e w' (X :: Y :: row (.slice (some ⟨g0, o0, none⟩) Ls.length sc) 45 5 Ls.length (Q.flatMap shCells) :: Z)) (hq : Q[j]? = some q) => (⟨rowf_cell shCells 5 shCells_len (row.reads h'.p2) hq (j := 0) rfl, rowf_cell shCells 5 shCells_len (row.reads h'.p2) hq (j := 1) rfl, rowf_cell shCells 5 shCells_len (row.reads h'.p2) hq (j := 2) rfl, rowf_cell shCells 5 shCells_len (row.reads h'.p2) hq (j := 3) rfl, rowf_cell shCells 5 shCells_len (row.reads h'.p2) hq (j := 4) rfl⟩ : w'.cell? ⟨g0, o0 + j * 5, none⟩ = some (.int .i64 (q.1.1 : Int)) ∧ w'.cell? ⟨g0, o0 + j * 5 + 1, none⟩ = some (.int .i64 (q.1.2.cls : Int)) ∧ w'.cell? ⟨g0, o0 + j * 5 + 2, none⟩ = some (.int .i64 (cnt q.1.2.set : Int)) ∧ w'.cell? ⟨g0, o0 + j * 5 + 3, none⟩ = some (.int .i64 (q.1.2.set.length : Int)) ∧ w'.cell? ⟨g0, o0 + j * 5 + 4, none⟩ = some q.2)
      have HRW := Lib.hid fun (w' : World) (X Y Z : HP) (W : List HP) (h' : Holds e w' (X :: Y :: Z :: all shRow Q :: W)) => row.reads (Holds.focus (f := shRow) hq (h'.p3))
      obtain ⟨ra, rc, hqv⟩ := (HRW.out _ _ _ _ _ HX).shape
      obtain ⟨q0, q1, q2, q3, q4⟩ := HCE.out _ _ _ _ _ _ HX hq
      have HQK := Lib.hid hq
      have HLK := Lib.hid hLk
      have HF := Lib.hid F
      obtain ⟨⟨pn, g⟩, qv⟩ := q
      dsimp only at *
      subst hqv
      have hcl : g.cls < 64 := F.cls
      have hu0 : 0 < cnt g.set := F.pos
      have hum := cnt_le g.set
      have hm256 : g.set.length ≤ 256 := by rw [F.set]; exact (cObjects_bd hcl).2
      have hr4 : g.row.length ≤ 4 := by rw [F.len]; exact (cFrames_bd _).2
      have C1 : Hid (∀ w', Calls Tryz.prog 16 #[.int .i64 g.cls] w' (Quiet w' (.int .i64 g.row.length))) := Lib.hid fun w' => by
        have := r15Frames (w := w') g.cls hcl
        rw [← F.len] at this
        exact this
      have C2 : Hid (∀ w', Calls Tryz.prog 86 #[.int .i64 g.cls, .int .i64 g.row.length] w' (Quiet w' (.int .i64 g.set.length))) := Lib.hid fun w' => by
        have := r15Objects (w := w') g.cls g.row.length hcl hr4
        rw [show rObjects g.cls g.row.length = g.set.length by rw [F.len, F.set]; exact rObjects_cls _] at this
        exact this
      have HFO : Hid (framesOf (Ls.take (k + 1)) = framesOf (Ls.take k) + g.row.length) := Lib.hid (by rw [List.take_add_one, hLk]; simp [framesOf])
      have HOB := Lib.hid (show objsL (Ls.take (k + 1)) = (objsL (Ls.take k)).set g.cls (((objectsOf (Ls.take k) (g.cls : Int) : Nat) : Int) + (cnt g.set : Int)) by rw [List.take_add_one, hLk]; exact objsL_snoc _ _ hcl)
      have HRO : Hid (rowsOf (Ls.take (k + 1)) = rowsOf (Ls.take k) ++ g.row) := Lib.hid (by rw [List.take_add_one, hLk]; simp [rowsOf])
      have HNX : Hid (rowsOf (Ls.take k) ++ g.row).Nodup := Lib.hid (by
        rw [← HRO.out]
        have h1 : rowsOf Ls = rowsOf (Ls.take (k + 1)) ++ rowsOf (Ls.drop (k + 1)) := by unfold rowsOf; rw [← List.flatMap_append, List.take_append_drop]
        have h2 := HND.out
        rw [h1] at h2
        exact (List.nodup_append.1 h2).1)
      have hfo : framesOf (Ls.take k) ≤ 4 * 512 := by
        have := framesOf_le (L := Ls.take k) fun p hp => by
          obtain ⟨F', _⟩ := HSF.out p (List.mem_of_mem_take hp)
          rw [F'.len]; exact (cFrames_bd _).2
        rw [List.length_take] at this
        omega
      have hob : objectsOf (Ls.take k) (g.cls : Int) ≤ 256 * 512 := by
        have := objectsOf_le (c := (g.cls : Int)) (L := Ls.take k) fun p hp => by
          obtain ⟨F', _⟩ := HSF.out p (List.mem_of_mem_take hp)
          rw [F'.set]; exact (cObjects_bd F'.cls).2
        rw [List.length_take] at this
        omega
      have HB7 : Hid (∀ w' Y, Holds e w' (pts b7 (shObj (Ls.take k)) :: Y) → w'.cell? ⟨b7, g.cls, none⟩ = some (.int .i64 ((objectsOf (Ls.take k) (g.cls : Int) : Nat) : Int)) ∧ w'.frozen? ⟨b7, g.cls, none⟩ = false) := Lib.hid fun w' Y h => ⟨by rw [h.cells]; exact intsA_getS (objsL_get _ hcl), h.frozen _⟩
      have HS7 : Hid (∀ w' Y, Holds e w' (pts b7 (shObj (Ls.take k)) :: Y) → Holds e (w'.setCell ⟨b7, g.cls, none⟩ (.int .i64 (((objectsOf (Ls.take k) (g.cls : Int) : Nat) : Int) + (cnt g.set : Int)))) (pts b7 (shObj (Ls.take (k + 1))) :: Y)) := Lib.hid fun w' Y h => by
        have h1 := h.set g.cls (.int .i64 (((objectsOf (Ls.take k) (g.cls : Int) : Nat) : Int) + (cnt g.set : Int)))
        rw [ints_set, ← HOB.out] at h1
        exact h1
      have hki : (k : Int) < Ls.length := by omega
      clear F hq hLk HQL hP'
      have HRA := Lib.hid fun (w' : World) (A0 A1 A2 A3 : HP) (Y : List HP) (h : Holds e w' (A0 :: A1 :: A2 :: A3 :: poolH pb tb rb S :: Y)) => retQ (poRAM h.p4) h
      obtain ⟨rl, hrl⟩ : ∃ rl, g.row.length = rl := ⟨_, rfl⟩
      rw [hrl] at C1 C2 HFO hr4 HRW q4
      by_cases hk0 : k = 0
      · have hki0 : decide ((0 : Int) < (k : Int)) = false := decide_eq_false (by omega)
        have hki1 : decide (0 < k) = false := decide_eq_false (by omega)
        clear hk0
        have d1 : decide ((g.cls : Int) < 0) = false := decide_eq_false (by omega)
        have d2 : decide ((63 : Int) < (g.cls : Int)) = false := decide_eq_false (by omega)
        have d3 : decide ((cnt g.set : Int) < 1) = false := decide_eq_false (by omega)
        have d4 : decide ((g.set.length : Int) < (cnt g.set : Int)) = false := decide_eq_false (by omega)
        have d5 : ¬ ((g.set.length : Int) < (cnt g.set : Int)) := by omega
        have d6 : ¬ (g.set.length < cnt g.set) := by omega
        have d7 : decide (g.set.length < cnt g.set) = false := decide_eq_false d6
        have d8 : ((rl : Int) != (rl : Int)) = false := by simp
        have d9 : ((g.set.length : Int) != (g.set.length : Int)) = false := by simp
        go_wp2_with fail
        obtain ⟨I, Wf, hI, hW, hWs⟩ := worlds_of HX
        have x0 := fun i => (HCE.out _ _ _ _ _ _ (hW i) HQK.out).1
        have x1 := fun i => (HCE.out _ _ _ _ _ _ (hW i) HQK.out).2.1
        have x2 := fun i => (HCE.out _ _ _ _ _ _ (hW i) HQK.out).2.2.1
        have x3 := fun i => (HCE.out _ _ _ _ _ _ (hW i) HQK.out).2.2.2.1
        have x4 := fun i => (HCE.out _ _ _ _ _ _ (hW i) HQK.out).2.2.2.2
        dsimp only at x0 x1 x2 x3 x4
        skip
        have CF := Lib.hid fun i => quietQ (C1.out (Wf i)) (hW i) hWs
        have CO := Lib.hid fun i => quietQ (C2.out (Wf i)) (hW i) hWs
        clear C1 C2 q0 q1 q2 q3 q4
        refine wp_region_holds hWs HX (by kernel_rfl) (by kernel_rfl) ?_
        try simp only [List.append_eq, List.cons_append, List.nil_append]
        (repeat (go_big_quiet_step ((first | (go_at_call 16; exact CF.out _) | (go_at_call 86; exact CO.out _))))); refine wpQuiet_nil ?_; intro _ hw'; obtain ⟨nq, hw''⟩ := hw'; subst hw''
        have H6 := hW nq
        clear x0 x1 x2 x3 x4 CF CO HX
        obtain ⟨q0, q1, q2, q3, q4⟩ := HCE.out _ _ _ _ _ _ H6 HQK.out
        dsimp only at q0 q1 q2 q3 q4
        obtain ⟨j0, j1⟩ := HB7.out _ _ H6
        go_wp2_with fail
        go_region
        have H7 := (HS7.out _ _ H6).drew
        clear H6 j0 j1 q0 q1 q2 q3 q4
        obtain ⟨q0, q1, q2, q3, q4⟩ := HCE.out _ _ _ _ _ _ H7 HQK.out
        dsimp only at q0 q1 q2 q3 q4
        have hrw0 : shMine (rowsOf (Ls.take k)) = shMine (rowsOf (Ls.take k) ++ g.row.take 0) := by rw [List.take_zero, List.append_nil]
        rw [hrw0] at H7
        have H8 := Lib.hid H7
        clear hrw0
        clear H7
        go_wp2_with fail
        go_loopw [11] (fun i wr => ∃ j, j ≤ rl ∧ i = .int .i64 (j : Nat) ∧ Holds e wr (pts b7 (shObj (Ls.take (k + 1))) :: pts (b7 + 1) (shMine (rowsOf (Ls.take k) ++ g.row.take j)) :: row (.slice (some ⟨g0, o0, none⟩) Ls.length sc) 45 5 Ls.length (Q.flatMap shCells) :: all shRow Q :: poolH pb tb rb S :: ramH rb M :: oH (.slice la L.length lc) L :: R)) (fun i _ => rl - (intOf i).toNat)
        case atStart => exact ⟨0, by omega, rfl, H8.out⟩
        case round =>
          obtain ⟨j, hj, rfl, HY⟩ := hrel
          clear H8 q0 q1 q2 q3 q4
          obtain ⟨q0, q1, q2, q3, q4⟩ := HCE.out _ _ _ _ _ _ HY HQK.out
          dsimp only at q0 q1 q2 q3 q4
          clear q0 q1 q2 q3
          by_cases hjl : j < rl
          · have hji : (j : Int) < (rl : Int) := by omega
            obtain ⟨n, hn⟩ : ∃ n, g.row[j]? = some n := ⟨_, List.getElem?_eq_getElem (by omega)⟩
            obtain ⟨hn96, hown⟩ := HF.out.own n (List.mem_of_getElem? hn)
            obtain ⟨g1, o1, hra, hel⟩ := (HRW.out _ _ _ _ _ HY).at (by omega)
            subst hra
            have r0 := hel j (.int .i64 (n : Int)) (by rw [ints_getS (x := (n : Int)) (by unfold nats; rw [List.getElem?_map, hn]; rfl)])
            have HNI : Hid (n ∉ rowsOf (Ls.take k) ++ g.row.take j) := Lib.hid (by
              have h1 := HNX.out
              have h2 : g.row = g.row.take j ++ n :: g.row.drop (j + 1) := (split_at hn).1
              rw [h2, ← List.append_assoc] at h1
              have h3 := (List.nodup_append.1 h1).2.2
              intro hm
              exact h3 n hm n (by simp) rfl)
            have m0 := HY.swap.cells n
            have m1 : ((bools (mineL (rowsOf (Ls.take k) ++ g.row.take j))).toArray)[n]? = some (.bool false) := boolsA_get (by rw [mineL_get _ hn96, decide_eq_false HNI.out])
            rw [m1] at m0
            have HRJ : Hid (rowsOf (Ls.take k) ++ g.row.take (j + 1) = rowsOf (Ls.take k) ++ g.row.take j ++ [n]) := Lib.hid (by rw [List.take_add_one, hn, List.append_assoc]; rfl)
            have HS8 : Hid (∀ w', Holds e w' (pts b7 (shObj (Ls.take (k + 1))) :: pts (b7 + 1) (shMine (rowsOf (Ls.take k) ++ g.row.take j)) :: row (.slice (some ⟨g0, o0, none⟩) Ls.length sc) 45 5 Ls.length (Q.flatMap shCells) :: all shRow Q :: poolH pb tb rb S :: ramH rb M :: oH (.slice la L.length lc) L :: R) → w'.cell? ⟨b7 + 1, n, none⟩ = some (.bool false) ∧ w'.frozen? ⟨b7 + 1, n, none⟩ = false ∧ Holds e (w'.setCell ⟨b7 + 1, n, none⟩ (.bool true)) (pts b7 (shObj (Ls.take (k + 1))) :: pts (b7 + 1) (shMine (rowsOf (Ls.take k) ++ g.row.take (j + 1))) :: row (.slice (some ⟨g0, o0, none⟩) Ls.length sc) 45 5 Ls.length (Q.flatMap shCells) :: all shRow Q :: poolH pb tb rb S :: ramH rb M :: oH (.slice la L.length lc) L :: R)) := Lib.hid fun w' h => by
              refine ⟨(h.swap.cells n).trans m1, h.swap.frozen n, ?_⟩
              have h1 := h.swap.set n (.bool true)
              rw [bools_set, ← mineL_snoc _ _ hn96, ← HRJ.out] at h1
              exact h1.swap
            have hnn0 : decide ((n : Int) < 0) = false := decide_eq_false (by omega)
            have hnn1 : decide ((95 : Int) < (n : Int)) = false := decide_eq_false (by omega)
            have hnn2 : decide (95 < n) = false := decide_eq_false (by omega)
            have hnn3 : (n : Int) < 96 := by omega
            have HOW : Hid (∀ w', Holds e w' (pts b7 (shObj (Ls.take (k + 1))) :: pts (b7 + 1) (shMine (rowsOf (Ls.take k) ++ g.row.take j)) :: row (.slice (some ⟨g0, o0, none⟩) Ls.length sc) 45 5 Ls.length (Q.flatMap shCells) :: all shRow Q :: poolH pb tb rb S :: ramH rb M :: oH (.slice la L.length lc) L :: R) → ∃ f, w'.cell? ⟨rb, 0, none⟩ = some (.pointer (some ⟨f, 0, none⟩)) ∧ Calls Tryz.prog 95 #[.pointer (some ⟨f, 0, none⟩), .int .i64 n] w' (Quiet w' (.int .i64 3))) := Lib.hid fun w' h => by
              obtain ⟨f, X, h1, h2, _⟩ := ram_fr h.p5
              have h3 := frOwner h2 (n : Int)
              rw [hown] at h3
              exact ⟨f, h1, h3⟩
            clear hel hn m1 hown
            go_wp2_with fail
            refine (HRA.out _ _ _ _ _ _ HY).mono ?_
            rintro en w5 ⟨rfl, HZ⟩
            obtain ⟨f, hf, hcO⟩ := HOW.out _ HZ
            have HCO := Lib.hid (retQ hcO HZ)
            clear HY hcO HOW
            go_wp2_with fail
            refine HCO.out.mono ?_
            rintro en w6 ⟨rfl, HY⟩
            obtain ⟨j3, j2, H9⟩ := HS8.out _ HY
            have H9 := Lib.hid H9
            clear HCO hf HZ HS8 HY
            go_wp2_with fail
            go_roundw
            case rel => exact ⟨j + 1, by omega, by go_num, H9.out⟩
            case measure => simp [intOf]; omega
          · have hji : ¬ (j : Int) < (rl : Int) := by omega
            obtain rfl : j = rl := by omega
            have HY2 : Holds e wr (pts b7 (shObj (Ls.take (k + 1))) :: pts (b7 + 1) (shMine (rowsOf (Ls.take (k + 1)))) :: row (.slice (some ⟨g0, o0, none⟩) Ls.length sc) 45 5 Ls.length (Q.flatMap shCells) :: all shRow Q :: poolH pb tb rb S :: ramH rb M :: oH (.slice la L.length lc) L :: R) := by
              rw [HRO.out]
              rw [show g.row.take j = g.row from List.take_of_length_le (by omega)] at HY
              exact HY
            have HY2 := Lib.hid HY2
            clear HY
            go_wp2_with fail
            go_roundw
            case rel => exact ⟨k + 1, by omega, by go_num, by rw [HFO.out]; go_num, HY2.out⟩
            case measure => simp [intOf]; omega
      · have hki0 : decide ((0 : Int) < (k : Int)) = true := decide_eq_true (by omega)
        have hki1 : decide (0 < k) = true := decide_eq_true (by omega)
        obtain ⟨qp, hqp⟩ : ∃ qp, Q[k - 1]? = some qp := ⟨_, List.getElem?_eq_getElem (by have := congrArg List.length HQ.out; rw [List.length_map] at this; omega)⟩
        have HQP := Lib.hid hqp
        have hpp : qp.1.1 < pn := by
          have h1 := List.pairwise_iff_getElem.1 HAS.out (k - 1) k (by rw [List.length_map]; omega) (by rw [List.length_map]; exact hlt) (by omega)
          simp only [List.getElem_map] at h1
          have h2 : Ls[k - 1]? = some qp.1 := by rw [← HQ.out, List.getElem?_map, hqp]; rfl
          rw [(List.getElem?_eq_some_iff.1 h2).2, (List.getElem?_eq_some_iff.1 HLK.out).2] at h1
          exact h1
        have hk1 : ((k : Int) - 1).toNat = k - 1 := by omega
        have hk2 : (0 : Int) ≤ (k : Int) - 1 := by omega
        have hk3 : (k : Int) - 1 < Ls.length := by omega
        have hpi : decide ((pn : Int) ≤ (qp.1.1 : Int)) = false := decide_eq_false (by omega)
        have hpi2 : decide (pn ≤ qp.1.1) = false := decide_eq_false (by omega)
        clear hqp
        have d1 : decide ((g.cls : Int) < 0) = false := decide_eq_false (by omega)
        have d2 : decide ((63 : Int) < (g.cls : Int)) = false := decide_eq_false (by omega)
        have d3 : decide ((cnt g.set : Int) < 1) = false := decide_eq_false (by omega)
        have d4 : decide ((g.set.length : Int) < (cnt g.set : Int)) = false := decide_eq_false (by omega)
        have d5 : ¬ ((g.set.length : Int) < (cnt g.set : Int)) := by omega
        have d6 : ¬ (g.set.length < cnt g.set) := by omega
        have d7 : decide (g.set.length < cnt g.set) = false := decide_eq_false d6
        have d8 : ((rl : Int) != (rl : Int)) = false := by simp
        have d9 : ((g.set.length : Int) != (g.set.length : Int)) = false := by simp
        go_wp2_with fail
        obtain ⟨I, Wf, hI, hW, hWs⟩ := worlds_of HX
        have x0 := fun i => (HCE.out _ _ _ _ _ _ (hW i) HQK.out).1
        have x1 := fun i => (HCE.out _ _ _ _ _ _ (hW i) HQK.out).2.1
        have x2 := fun i => (HCE.out _ _ _ _ _ _ (hW i) HQK.out).2.2.1
        have x3 := fun i => (HCE.out _ _ _ _ _ _ (hW i) HQK.out).2.2.2.1
        have x4 := fun i => (HCE.out _ _ _ _ _ _ (hW i) HQK.out).2.2.2.2
        dsimp only at x0 x1 x2 x3 x4
        (have x5 := fun i => (HCE.out _ _ _ _ _ _ (hW i) HQP.out).1)
        have CF := Lib.hid fun i => quietQ (C1.out (Wf i)) (hW i) hWs
        have CO := Lib.hid fun i => quietQ (C2.out (Wf i)) (hW i) hWs
        clear C1 C2 q0 q1 q2 q3 q4
        refine wp_region_holds hWs HX (by kernel_rfl) (by kernel_rfl) ?_
        try simp only [List.append_eq, List.cons_append, List.nil_append]
        (repeat (go_big_quiet_step ((first | (go_at_call 16; exact CF.out _) | (go_at_call 86; exact CO.out _))))); refine wpQuiet_nil ?_; intro _ hw'; obtain ⟨nq, hw''⟩ := hw'; subst hw''
        have H6 := hW nq
        clear x0 x1 x2 x3 x4 CF CO HX
        obtain ⟨q0, q1, q2, q3, q4⟩ := HCE.out _ _ _ _ _ _ H6 HQK.out
        dsimp only at q0 q1 q2 q3 q4
        obtain ⟨j0, j1⟩ := HB7.out _ _ H6
        go_wp2_with fail
        go_region
        have H7 := (HS7.out _ _ H6).drew
        clear H6 j0 j1 q0 q1 q2 q3 q4
        obtain ⟨q0, q1, q2, q3, q4⟩ := HCE.out _ _ _ _ _ _ H7 HQK.out
        dsimp only at q0 q1 q2 q3 q4
        have hrw0 : shMine (rowsOf (Ls.take k)) = shMine (rowsOf (Ls.take k) ++ g.row.take 0) := by rw [List.take_zero, List.append_nil]
        rw [hrw0] at H7
        have H8 := Lib.hid H7
        clear hrw0
        clear H7
        go_wp2_with fail
        go_loopw [11] (fun i wr => ∃ j, j ≤ rl ∧ i = .int .i64 (j : Nat) ∧ Holds e wr (pts b7 (shObj (Ls.take (k + 1))) :: pts (b7 + 1) (shMine (rowsOf (Ls.take k) ++ g.row.take j)) :: row (.slice (some ⟨g0, o0, none⟩) Ls.length sc) 45 5 Ls.length (Q.flatMap shCells) :: all shRow Q :: poolH pb tb rb S :: ramH rb M :: oH (.slice la L.length lc) L :: R)) (fun i _ => rl - (intOf i).toNat)
        case atStart => exact ⟨0, by omega, rfl, H8.out⟩
        case round =>
          obtain ⟨j, hj, rfl, HY⟩ := hrel
          clear H8 q0 q1 q2 q3 q4
          obtain ⟨q0, q1, q2, q3, q4⟩ := HCE.out _ _ _ _ _ _ HY HQK.out
          dsimp only at q0 q1 q2 q3 q4
          clear q0 q1 q2 q3
          by_cases hjl : j < rl
          · have hji : (j : Int) < (rl : Int) := by omega
            obtain ⟨n, hn⟩ : ∃ n, g.row[j]? = some n := ⟨_, List.getElem?_eq_getElem (by omega)⟩
            obtain ⟨hn96, hown⟩ := HF.out.own n (List.mem_of_getElem? hn)
            obtain ⟨g1, o1, hra, hel⟩ := (HRW.out _ _ _ _ _ HY).at (by omega)
            subst hra
            have r0 := hel j (.int .i64 (n : Int)) (by rw [ints_getS (x := (n : Int)) (by unfold nats; rw [List.getElem?_map, hn]; rfl)])
            have HNI : Hid (n ∉ rowsOf (Ls.take k) ++ g.row.take j) := Lib.hid (by
              have h1 := HNX.out
              have h2 : g.row = g.row.take j ++ n :: g.row.drop (j + 1) := (split_at hn).1
              rw [h2, ← List.append_assoc] at h1
              have h3 := (List.nodup_append.1 h1).2.2
              intro hm
              exact h3 n hm n (by simp) rfl)
            have m0 := HY.swap.cells n
            have m1 : ((bools (mineL (rowsOf (Ls.take k) ++ g.row.take j))).toArray)[n]? = some (.bool false) := boolsA_get (by rw [mineL_get _ hn96, decide_eq_false HNI.out])
            rw [m1] at m0
            have HRJ : Hid (rowsOf (Ls.take k) ++ g.row.take (j + 1) = rowsOf (Ls.take k) ++ g.row.take j ++ [n]) := Lib.hid (by rw [List.take_add_one, hn, List.append_assoc]; rfl)
            have HS8 : Hid (∀ w', Holds e w' (pts b7 (shObj (Ls.take (k + 1))) :: pts (b7 + 1) (shMine (rowsOf (Ls.take k) ++ g.row.take j)) :: row (.slice (some ⟨g0, o0, none⟩) Ls.length sc) 45 5 Ls.length (Q.flatMap shCells) :: all shRow Q :: poolH pb tb rb S :: ramH rb M :: oH (.slice la L.length lc) L :: R) → w'.cell? ⟨b7 + 1, n, none⟩ = some (.bool false) ∧ w'.frozen? ⟨b7 + 1, n, none⟩ = false ∧ Holds e (w'.setCell ⟨b7 + 1, n, none⟩ (.bool true)) (pts b7 (shObj (Ls.take (k + 1))) :: pts (b7 + 1) (shMine (rowsOf (Ls.take k) ++ g.row.take (j + 1))) :: row (.slice (some ⟨g0, o0, none⟩) Ls.length sc) 45 5 Ls.length (Q.flatMap shCells) :: all shRow Q :: poolH pb tb rb S :: ramH rb M :: oH (.slice la L.length lc) L :: R)) := Lib.hid fun w' h => by
              refine ⟨(h.swap.cells n).trans m1, h.swap.frozen n, ?_⟩
              have h1 := h.swap.set n (.bool true)
              rw [bools_set, ← mineL_snoc _ _ hn96, ← HRJ.out] at h1
              exact h1.swap
            have hnn0 : decide ((n : Int) < 0) = false := decide_eq_false (by omega)
            have hnn1 : decide ((95 : Int) < (n : Int)) = false := decide_eq_false (by omega)
            have hnn2 : decide (95 < n) = false := decide_eq_false (by omega)
            have hnn3 : (n : Int) < 96 := by omega
            have HOW : Hid (∀ w', Holds e w' (pts b7 (shObj (Ls.take (k + 1))) :: pts (b7 + 1) (shMine (rowsOf (Ls.take k) ++ g.row.take j)) :: row (.slice (some ⟨g0, o0, none⟩) Ls.length sc) 45 5 Ls.length (Q.flatMap shCells) :: all shRow Q :: poolH pb tb rb S :: ramH rb M :: oH (.slice la L.length lc) L :: R) → ∃ f, w'.cell? ⟨rb, 0, none⟩ = some (.pointer (some ⟨f, 0, none⟩)) ∧ Calls Tryz.prog 95 #[.pointer (some ⟨f, 0, none⟩), .int .i64 n] w' (Quiet w' (.int .i64 3))) := Lib.hid fun w' h => by
              obtain ⟨f, X, h1, h2, _⟩ := ram_fr h.p5
              have h3 := frOwner h2 (n : Int)
              rw [hown] at h3
              exact ⟨f, h1, h3⟩
            clear hel hn m1 hown
            go_wp2_with fail
            refine (HRA.out _ _ _ _ _ _ HY).mono ?_
            rintro en w5 ⟨rfl, HZ⟩
            obtain ⟨f, hf, hcO⟩ := HOW.out _ HZ
            have HCO := Lib.hid (retQ hcO HZ)
            clear HY hcO HOW
            go_wp2_with fail
            refine HCO.out.mono ?_
            rintro en w6 ⟨rfl, HY⟩
            obtain ⟨j3, j2, H9⟩ := HS8.out _ HY
            have H9 := Lib.hid H9
            clear HCO hf HZ HS8 HY
            go_wp2_with fail
            go_roundw
            case rel => exact ⟨j + 1, by omega, by go_num, H9.out⟩
            case measure => simp [intOf]; omega
          · have hji : ¬ (j : Int) < (rl : Int) := by omega
            obtain rfl : j = rl := by omega
            have HY2 : Holds e wr (pts b7 (shObj (Ls.take (k + 1))) :: pts (b7 + 1) (shMine (rowsOf (Ls.take (k + 1)))) :: row (.slice (some ⟨g0, o0, none⟩) Ls.length sc) 45 5 Ls.length (Q.flatMap shCells) :: all shRow Q :: poolH pb tb rb S :: ramH rb M :: oH (.slice la L.length lc) L :: R) := by
              rw [HRO.out]
              rw [show g.row.take j = g.row from List.take_of_length_le (by omega)] at HY
              exact HY
            have HY2 := Lib.hid HY2
            clear HY
            go_wp2_with fail
            go_roundw
            case rel => exact ⟨k + 1, by omega, by go_num, by rw [HFO.out]; go_num, HY2.out⟩
            case measure => simp [intOf]; omega
    · have hki : ¬ (k : Int) < Ls.length := by omega
      obtain rfl : k = Ls.length := by omega
      rw [List.take_length] at HX
      rw [List.take_length]
      have HX1 : Holds e wr (pts b7 (shObj Ls) :: poolH pb tb rb S :: ramH rb M :: oH (.slice la L.length lc) L :: R) := HX.d1.d1.d1
      have hP := hP'.out
      have hK := HK.out
      have hL6 : L.length ≤ 1000000 := by have := hK.len512; omega
      have hLB := fun q hq => (hK.lens (q := q) hq)
      have HCO : Hid (∀ (w' : World) (c : Nat) (A0 A1 A2 : HP), Holds e w' (A0 :: A1 :: A2 :: oH (.slice la L.length lc) L :: R) → Calls Tryz.prog 96 #[.slice la L.length lc, .int .i64 c] w' (Ret e (.int .i64 (objectsO L c)) (A0 :: A1 :: A2 :: oH (.slice la L.length lc) L :: R))) := Lib.hid fun w' c A0 A1 A2 h => (r20Objects L (.slice la L.length lc) c hL6 (fun q hq => ⟨(hLB q hq).1, (hLB q hq).2.1⟩) h.p3).mono fun en w'' ⟨r1, r2⟩ => ⟨r1, r2.q3⟩
      have HPO : Hid (∀ (w' : World) (c : Int) (A0 : HP) Y, Holds e w' (A0 :: poolH pb tb rb S :: Y) → Calls Tryz.prog 25 #[.pointer (some ⟨pb, 0, none⟩), .int .i64 c] w' (Ret e (.int .i64 (objectsOf Ls c)) (A0 :: poolH pb tb rb S :: Y))) := Lib.hid fun w' c A0 Y h => by
        have hl := hP.len
        have h1 := poObjects h.swap (by omega) hP.rows hP.sets c
        rw [HLS.out] at h1
        exact h1.mono fun en w'' ⟨r1, r2⟩ => ⟨r1, r2.swap⟩
      have HEQ : Hid (∀ c : Nat, objectsOf Ls (c : Int) = objectsO L c) := Lib.hid fun c => by rw [← HLS.out]; exact hK.objects c
      have HN1 : Hid (objectsOf Ls (-1) = 0 ∧ objectsOf Ls 64 = 0) := Lib.hid ⟨objectsOf_none fun p hp => by omega, objectsOf_none fun p hp => by have := (HSF.out p hp).1.cls; omega⟩
      have HFS : Hid (framesOf Ls = M.fr.count [3]) := Lib.hid (by rw [← HLS.out, framesOf_fsum, ← hP.pgs.frames])
      have HFA : Hid (∀ (w' : World) (A0 : HP) (Y : List HP), Holds e w' (A0 :: poolH pb tb rb S :: Y) → Calls Tryz.prog 24 #[.pointer (some ⟨pb, 0, none⟩)] w' (Ret e (.int .i64 (M.fr.count [3])) (A0 :: poolH pb tb rb S :: Y))) := Lib.hid fun w' A0 Y h => (framesAny hP h.swap).mono fun en w'' ⟨r1, r2⟩ => ⟨r1, r2.swap⟩
      have HRA := Lib.hid fun (w' : World) (A0 : HP) (Y : List HP) (h : Holds e w' (A0 :: poolH pb tb rb S :: Y)) => retQ (poRAM h.swap) h
      have hC3 : M.fr.count [3] ≤ 96 := Nat.le_trans (List.length_filter_le _ _) hP.pgs.fr.n96
      clear HX hP hK hLB hL6 HSF HAS HND HQ HQL hP' HK
      rw [HFS.out]
      obtain ⟨c3, hc3⟩ : ∃ c3, M.fr.count [3] = c3 := ⟨_, rfl⟩
      rw [hc3] at HFA hC3 ⊢
      have HC3 := Lib.hid hc3
      clear hc3 HFS
      go_wp2_with fail
      go_loopw [13] (fun i wr => ∃ c : Nat, c ≤ 64 ∧ i = .int .i64 (c : Nat) ∧ Holds e wr (pts b7 (shObj Ls) :: poolH pb tb rb S :: ramH rb M :: oH (.slice la L.length lc) L :: R)) (fun i _ => 64 - (intOf i).toNat)
      case atStart => exact ⟨0, by omega, rfl, HX1⟩
      case round =>
        obtain ⟨c, hc, rfl, HY⟩ := hrel
        clear HX1
        by_cases hc64 : c < 64
        · have hci : (c : Int) < 64 := by omega
          obtain ⟨z, hz⟩ : ∃ z, objectsOf Ls (c : Int) = z := ⟨_, rfl⟩
          have hz2 : objectsO L c = z := by rw [← HEQ.out, hz]
          obtain ⟨I, Wf, hI, hW, hWs⟩ := worlds_of HY
          have x7 : ∀ i, (Wf i).cell? ⟨b7, c, none⟩ = some (.int .i64 (z : Int)) := fun i => by rw [(hW i).cells]; exact intsA_getS (by rw [objsL_get _ hc64, hz])
          have CO := Lib.hid fun i => quietH (A := pts b7 (shObj Ls) :: poolH pb tb rb S :: ramH rb M :: oH (.slice la L.length lc) L :: R) (hz2 ▸ HCO.out (Wf i) c _ _ _ (hW i)) hWs
          have CP := Lib.hid fun i => quietH (A := pts b7 (shObj Ls) :: poolH pb tb rb S :: ramH rb M :: oH (.slice la L.length lc) L :: R) (hz ▸ HPO.out (Wf i) (c : Int) _ _ (hW i)) hWs
          have d1 : ((z : Int) != (z : Int)) = false := by simp
          clear hz hz2
          go_wp2_with fail
          refine wp_region_holds hWs HY (by kernel_rfl) (by kernel_rfl) ?_
          try simp only [List.append_eq, List.cons_append, List.nil_append]
          (repeat (go_big_quiet_step ((first | (go_at_call 96; exact CO.out _) | (go_at_call 25; exact CP.out _))))); refine wpQuiet_nil ?_; intro _ hw'; obtain ⟨nq, hw''⟩ := hw'; subst hw''
          have HZ := hW nq
          clear x7 CO CP HY hW hWs
          go_wp2_with fail
          go_roundw
          case rel => exact ⟨c + 1, by omega, by go_num, HZ⟩
          case measure => simp [intOf]; omega
        · have hci : ¬ (c : Int) < 64 := by omega
          obtain ⟨hn1, hn2⟩ := HN1.out
          have C1 := Lib.hid fun (w' : World) h => hn1 ▸ HPO.out w' (-1) (pts b7 (shObj Ls)) (ramH rb M :: oH (.slice la L.length lc) L :: R) h
          have C2 := Lib.hid fun (w' : World) h => hn2 ▸ HPO.out w' 64 (pts b7 (shObj Ls)) (ramH rb M :: oH (.slice la L.length lc) L :: R) h
          clear HPO HCO HEQ HN1 hn1 hn2
          go_wp2_with fail
          refine (HFA.out _ _ _ HY).mono ?_
          rintro en w5 ⟨rfl, H2⟩
          clear HY HFA
          go_wp2_with fail
          refine (HRA.out _ _ _ H2).mono ?_
          rintro en w6 ⟨rfl, H3⟩
          obtain ⟨f, X, hf, HF, hback⟩ := ram_fr H3.p2
          have HB := Lib.hid hback
          have CC := Lib.hid (ramCount ((HF.alloc (.cells #[.int .i64 3] 3)).drop) 3 (.slice (some ⟨w6.heap.size, 0, none⟩) 1 1) (fun n => Reads.drewN (reads_lit1 w6 (.int .i64 3) 3)))
          rw [HC3.out] at CC
          clear H2 H3 HF hback HRA
          go_wp2_with fail
          refine CC.out.mono ?_
          rintro en w7 ⟨rfl, H4⟩
          have H5 := (HB.out _ H4).q2
          clear CC H4 HB hf
          go_wp2_with fail
          refine (C1.out _ H5).mono ?_
          rintro en w8 ⟨rfl, H6⟩
          clear C1 H5
          go_wp2_with fail
          refine (C2.out _ H6).mono ?_
          rintro en w9 ⟨rfl, H7⟩
          clear C2 H6
          go_wp2_with fail
          go_ret
          exact ⟨rfl, H7.drop⟩
end
end Go.Proofs.YtheblkofemobdaaGreat

/-
  gunnylaw20: Whole.
-/
namespace Go.Proofs.YtheblkofemobdaaGreat
open Go.RowKit

theorem convB {w : World} {a : Option Addr} {c : Nat} {l : List UInt8} (h : RdB w (.slice a l.length c) l) (hl : 0 < l.length) : (convert 36 9 (.slice a l.length c)).run Tryz.prog w = .ok (.string ⟨l.toArray⟩) w := by
  obtain ⟨g, o, rfl, hc⟩ := Reads.at h (by omega)
  refine run_convert_bytes_back (P := Tryz.prog) _ _ _ 5 ⟨g, o, none⟩ _ l (by kernel_rfl) (by kernel_rfl) (by kernel_rfl) ?_
  intro j hj
  rw [Addr.add_at]
  refine hc j _ ?_
  simp [u8v, hj]
section
variable {e : Env} {w : World} {R : List HP} {pb tb rb : Nat} {S : PoolS} {M : RamS}
theorem Keep.read (hP : PoolOk M S) (x : Int) : Keep M (readM M S x) := (read_law x hP).2.2.1
def wholePost (pb tb rb : Nat) (M : RamS) (S : PoolS) (vl : Value) (L : List OE) (R : List HP) (M' : RamS) : List HP := pur (Kept M' S L ∧ Keep M M') :: poolH pb tb rb S :: ramH rb M' :: oH vl L :: R
set_option maxRecDepth 100000 in
set_option maxHeartbeats 4000000 in
theorem whole20 {vl : Value} {L : List OE} (hK : Kept M S L) (H : Holds e w (poolH pb tb rb S :: ramH rb M :: oH vl L :: R)) :
    Calls Tryz.prog 31 #[.pointer (some ⟨pb, 0, none⟩), vl] w (RetEx e (fun _ : RamS => .bool true) (wholePost pb tb rb M S vl L R)) := by
  obtain ⟨la, lc, rfl⟩ := o_shape H.p2
  have hL512 := hK.len512
  have CRA := Lib.hid (retQ (poRAM H) H)
  have CLN : Hid (∀ w' Y, Holds e w' (poolH pb tb rb S :: Y) → Calls Tryz.prog 22 #[.pointer (some ⟨pb, 0, none⟩)] w' (Ret e (.int .i64 L.length) (poolH pb tb rb S :: Y))) := Lib.hid fun w' Y h => by
    have := retQ (poLen h) h
    rw [hK.many] at this
    exact this
  have CBY : Hid (∀ w' Y, Holds e w' (poolH pb tb rb S :: Y) → Calls Tryz.prog 23 #[.pointer (some ⟨pb, 0, none⟩)] w' (Ret e (.int .i64 (bytesO L : Nat)) (poolH pb tb rb S :: Y))) := Lib.hid fun w' Y h => by
    have := poBytes h (fun x hx => by
      obtain ⟨n, ob, ln, g, V, _⟩ := hK.ok.at hx
      have h2 := V.l2
      rw [V.eq]
      dsimp only
      omega)
    rw [hK.bytes] at this
    exact this
  have CRB := Lib.hid fun (w' : World) (Y : List HP) (h : Holds e w' (oH (.slice la L.length lc) L :: Y)) => r20Bytes L (.slice la L.length lc) (by omega) (fun q hq => (hK.lens hq).2.1) h
  have hll : ((L.length : Int) != (L.length : Int)) = false := by simp
  have hbb : (((bytesO L : Nat) : Int) != ((bytesO L : Nat) : Int)) = false := by simp
  have HK := Lib.hid hK
  clear hK H
  generalize bytesO L = nb at *
  go_enter Tryz.func31, Tryz.ntmps31
  go_wp2_with fail
  refine CRA.out.mono ?_
  rintro en w1 ⟨rfl, H1⟩
  clear CRA
  go_wp2_with fail
  refine (CLN.out _ _ H1).mono ?_
  rintro en w2 ⟨rfl, H2⟩
  clear H1 CLN
  go_wp2_with fail
  refine (CBY.out _ _ H2).mono ?_
  rintro en w3 ⟨rfl, H3⟩
  clear H2 CBY
  go_wp2_with fail
  refine (CRB.out _ _ H3.p2).mono ?_
  rintro en w4 ⟨rfl, H4⟩
  have H5 := H4.q2
  clear H3 CRB H4
  go_wp2_with fail
  go_loopw [6] (fun i wr => ∃ (k : Nat) (M' : RamS), k ≤ L.length ∧ i = .int .i64 (k : Nat) ∧ Hid (Kept M' S L ∧ Keep M M') ∧ Holds e wr (poolH pb tb rb S :: ramH rb M' :: oH (.slice la L.length lc) L :: R)) (fun i _ => L.length - (intOf i).toNat)
  case atStart => exact ⟨0, M, by omega, rfl, Lib.hid ⟨HK.out, Keep.refl M⟩, H5⟩
  case round =>
    obtain ⟨k, M', hk, rfl, HKK, HX⟩ := hrel
    clear H5 HK
    obtain ⟨hK, hKp⟩ := HKK.out
    by_cases hlt : k < L.length
    · have hki : (k : Int) < L.length := by omega
      obtain ⟨Q, hQ, h2⟩ := o_open HX.p2
      have hql : Q.length = L.length := by rw [← hQ, List.length_map]
      rw [hql] at h2
      obtain ⟨q, hq⟩ : ∃ q, Q[k]? = some q := ⟨_, List.getElem?_eq_getElem (by omega)⟩
      have hLk : q.1 ∈ L := by rw [← hQ]; exact List.mem_map.2 ⟨q, List.mem_of_getElem? hq, rfl⟩
      obtain ⟨hin, hgot, _⟩ := hK.at hLk
      obtain ⟨l1, l2, l3⟩ := hK.lens hLk
      obtain ⟨g, o, hla, _⟩ := (row.reads h2).at (by omega)
      subst hla
      have HY : Holds e wr (poolH pb tb rb S :: ramH rb M' :: row (.slice (some ⟨g, o, none⟩) L.length lc) 64 2 L.length (Q.flatMap oCells) :: all oRow Q :: R) := h2.p2.cons (Take.there _ (Take.there _ (Take.here _ _)))
      have hRW : Hid (∀ w' Y Z, Holds e w' (Y :: row (.slice (some ⟨g, o, none⟩) L.length lc) 64 2 L.length (Q.flatMap oCells) :: all oRow Q :: Z) → w'.cell? ⟨g, o + k * 2, none⟩ = some (.int .i64 q.1.1) ∧ w'.cell? ⟨g, o + k * 2 + 1, none⟩ = some q.2 ∧ RdB w' q.2 q.1.2) := Lib.hid fun w' Y Z h => ⟨rowf_cell oCells 2 oCells_len (row.reads h.swap) hq (j := 0) rfl, rowf_cell oCells 2 oCells_len (row.reads h.swap) hq (j := 1) rfl, bts.reads (Holds.focus (f := oRow) hq h.p2)⟩
      obtain ⟨ba, bc, hqv⟩ := (hRW.out _ _ _ HY.drop).2.2.shape
      obtain ⟨r0, r1, _⟩ := hRW.out _ _ _ HY.drop
      obtain ⟨⟨hx, d⟩, qv⟩ := q
      dsimp only at *
      subst hqv
      have CRD := Lib.hid (poRead HY hK.ok hx hgot)
      have hKr := hK.read hx
      have hKpr := hKp.trans (Keep.read hK.ok hx)
      obtain ⟨n, ob, ln, g9, V, -⟩ := hK.ok.at hin
      have hget : S.tab.get hx = (⟨(n : Nat), (ob : Nat), (d.length : Nat)⟩, true) := by
        unfold TabS.get
        rw [if_pos hin]
        rw [V.eq] at l3 ⊢
        dsimp only at l3
        rw [l3]
      have CWH : Hid (∀ w' Y, Holds e w' (poolH pb tb rb S :: Y) → Calls Tryz.prog 19 #[.pointer (some ⟨pb, 0, none⟩), .int .i64 hx] w' (Ret e (.tuple #[.agg #[.int .i64 n, .int .i64 ob, .int .i64 d.length], .bool true]) (poolH pb tb rb S :: Y))) := Lib.hid fun w' Y h => by
        have h1 := poWhere h hx
        rw [hget] at h1
        exact h1
      have HKR : Hid (Kept (readM M' S hx) S L ∧ Keep M (readM M' S hx)) := Lib.hid ⟨hKr, hKpr⟩
      have HOC : Hid (∀ w' Y, Holds e w' (row (.slice (some ⟨g, o, none⟩) L.length lc) 64 2 L.length (Q.flatMap oCells) :: all oRow Q :: Y) → Holds e w' (oH (.slice (some ⟨g, o, none⟩) L.length lc) L :: Y)) := Lib.hid fun w' Y h => o_close hQ (by rw [hql]; exact h)
      have d8 : ((d.length : Int) != (d.length : Int)) = false := by simp
      clear hK hKp hKr hKpr hin hgot V hget hLk hql hQ h2 HX HKK l3
      generalize readM M' S hx = M2 at *
      go_wp2_with fail
      refine CRD.out.mono ?_
      rintro en w5 ⟨v, rfl, H6⟩
      obtain ⟨va, vc, rfl⟩ := (bts.reads H6).shape
      obtain ⟨r0, r1, _⟩ := hRW.out _ _ _ H6.drop.drop
      clear CRD HY
      go_wp2_with fail
      refine (CWH.out _ _ H6.swap).mono ?_
      rintro en w6 ⟨rfl, H7⟩
      have H8 := H7.alloc (.cells #[.int .i64 n, .int .i64 ob, .int .i64 d.length] 51)
      obtain ⟨bx, hbx⟩ : ∃ bx, w6.heap.size = bx := ⟨_, rfl⟩
      rw [hbx] at H8
      clear H6 H7 CWH r0 r1
      go_wp2_with fail
      refine code_at H8 fun w7 H8 => ?_
      obtain ⟨I, Wf, hI, hW, hWs⟩ := worlds_of H8
      have x0 := fun i => (hRW.out _ _ _ (hW i).drop.drop.drop).1
      have x1 := fun i => (hRW.out _ _ _ (hW i).drop.drop.drop).2.1
      have x2 := fun i => convB (bts.reads (hW i).drop.drop) l1
      have x3 := fun i => convB (hRW.out _ _ _ (hW i).drop.drop.drop).2.2 l1
      have x4 : ∀ i, (Wf i).cell? ⟨bx, 2, none⟩ = some (.int .i64 d.length) := fun i => (hW i).cells 2
      try dsimp only at x0 x1 x3
      refine wp_region_holds hWs H8 (by kernel_rfl) (by kernel_rfl) ?_
      try simp only [List.append_eq, List.cons_append, List.nil_append]
      (repeat (go_big_quiet_step (fail))); refine wpQuiet_nil ?_; intro _ hw'; obtain ⟨nq, hw''⟩ := hw'; subst hw''
      have H9 := hW nq
      clear x0 x1 x2 x3 x4 hbx H8
      have HA : Holds e (Wf nq) (poolH pb tb rb S :: ramH rb M2 :: oH (.slice (some ⟨g, o, none⟩) L.length lc) L :: R) := (HOC.out _ _ (H9.drop.d1.p2.cons (Take.there _ (Take.there _ (Take.here _ _))))).q2
      have HA := Lib.hid HA
      clear H9 hW hWs HOC hRW
      go_wp2_with fail
      go_roundw
      case rel => exact ⟨k + 1, M2, by omega, by go_num, HKR, HA.out⟩
      case measure => simp [intOf]; omega
    · have hki : ¬ (k : Int) < L.length := by omega
      have CSH := Lib.hid (sheets20 hK HX)
      clear hK hKp HX
      go_wp2_with fail
      refine CSH.out.mono ?_
      rintro en w5 ⟨rfl, H6⟩
      clear CSH
      go_wp2_with fail
      go_ret
      exact ⟨M', rfl, Holds.mkPur HKK.out H6⟩
end
end Go.Proofs.YtheblkofemobdaaGreat

/-
  gunnylaw20: PoolKeeps: frames of others; the parts of a round.
-/
namespace Go.Proofs.YtheblkofemobdaaGreat
open Go.RowKit

theorem takeO_own {M : RamS} {n : Nat} {o : Int} {L : List Nat} (hn : n < M.fr.owner.length) (k : Nat) : (M.take o L n).fr.own (k : Int) = if k = n then o else M.fr.own (k : Int) := by
  unfold RamS.take FrS.own
  rw [if_pos (Int.natCast_nonneg k), if_pos (Int.natCast_nonneg k), Int.toNat_natCast]
  exact getD_set hn
theorem takeO_frame {M : RamS} {n : Nat} {o : Int} {L : List Nat} (hn : n < M.mem.length) (k : Nat) : (M.take o L n).frame k = if k = n then zeros else M.frame k := by
  unfold RamS.take RamS.frame
  exact getD_set hn
/-- A frame taken by another owner. -/
theorem PoolOk.take {M : RamS} {S : PoolS} {L : List Nat} {n : Nat} {o : Int} (h : PoolOk M S) (hf : M.fr.free = L ++ [n]) (h1 : 1 ≤ o) (h3 : o < 3) : PoolOk (M.take o L n) S ∧ (∀ x, got (M.take o L n) S x = got M S x) := by
  have hn := (h.pgs.fr.mem n).1 (by rw [hf]; simp)
  have hn0 : M.fr.own (n : Int) = 0 := by rw [own_nat]; exact hn.2
  have hml : n < M.mem.length := by rw [h.pgs.ram.len]; exact hn.1
  have hne : ∀ (m : Nat) (g : PgS), S.pgs[m]? = some (some g) → ∀ r ∈ g.row, r ≠ n := fun m g hg r hr e => by
    obtain ⟨L', hI⟩ := h.pgs.pg m g hg
    have := hI.ok.own r hr
    rw [e, hn0] at this
    cases this
  have hfr : ∀ (m : Nat) (g : PgS), S.pgs[m]? = some (some g) → ∀ r ∈ g.row, (M.take o L n).frame r = M.frame r := fun m g hg r hr => by
    rw [takeO_frame hml, if_neg (hne m g hg r hr)]
  refine ⟨⟨⟨h.pgs.ram.take o L n, h.pgs.fr.take hf h1 (by omega), fun m g hg => ?_, h.pgs.apart, ?_⟩, h.tab, h.bks, h.pos, h.len⟩, fun x => ?_⟩
  · obtain ⟨L', hI⟩ := h.pgs.pg m g hg
    exact ⟨L', hI.congr (fun r hr => by rw [takeO_own hn.1, if_neg (hne m g hg r hr)]) fun r hr => hfr m g hg r hr⟩
  · have h2 := count_row (F := M.fr) (F' := (M.take o L n).fr) (row := [n]) (u := 0) (v := o) (by simp [RamS.take]) (by simp) (fun r hr => by simp at hr; subst hr; exact ⟨hn.1, hn0⟩) (fun j => by rw [takeO_own hn.1]; simp) [3]
    have h4 : o ∉ [(3 : Int)] := by simp; omega
    rw [if_neg h4] at h2
    simp at h2
    rw [h2, h.pgs.frames]
  · exact got_keep (bks := S.bks) h.tab (fun m ob ln q h' b1 b2 V => ⟨q, V.pg, obj_congr (hfr m q V.pg) ob ln⟩) x
theorem Kept.take {M : RamS} {S : PoolS} {Lo : List OE} {L : List Nat} {n : Nat} {o : Int} (h : Kept M S Lo) (hf : M.fr.free = L ++ [n]) (h1 : 1 ≤ o) (h3 : o < 3) : Kept (M.take o L n) S Lo := by
  obtain ⟨h4, h5⟩ := h.ok.take hf h1 h3
  exact ⟨h4, fun x d => by rw [h5]; exact h.look x d, h.nd⟩
theorem kept_nil {M : RamS} {S : PoolS} (h : Kept M S []) : sheetsOf S.pgs 0 = [] ∧ M.fr.count [3] = 0 := by
  have h1 : sheetsOf S.pgs 0 = [] := by
    apply Classical.byContradiction
    intro hne
    obtain ⟨p, hp⟩ := List.exists_mem_of_ne_nil _ hne
    obtain ⟨h2, _⟩ := h.ok.sheet hp
    have h3 := wsum_set (fun _ => 1) (y := none) h2
    have h4 := h.ok.tab.sum fun _ => 1
    have h5 := h.ok.tab.many
    have h6 := h.many
    have h7 := h.ok.pos _ _ h2
    unfold pgUse at h3
    simp at h3 h4 h6
    omega
  exact ⟨h1, by rw [h.ok.pgs.frames, ← framesOf_fsum S.pgs 0, h1]; rfl⟩
section
variable {e : Env} {w : World} {R : List HP} {pb tb rb : Nat} {S : PoolS} {M : RamS}
/-- RAM.Take by another owner, whatever it answers. -/
theorem takeAny {Lo : List OE} (hK : Kept M S Lo) (H : Holds e w (ramH rb M :: R)) :
    Calls Tryz.prog 27 #[.pointer (some ⟨rb, 0, none⟩), .int .i64 1] w (RetEx e (fun p : RamS × Int × Bool => .tuple #[.int .i64 p.2.1, .bool p.2.2]) (fun p => pur (Kept p.1 S Lo) :: ramH rb p.1 :: R)) := by
  by_cases hf : M.fr.free = []
  · exact (ramTake_no H 1 (.inl hf)).mono fun en w' ⟨r1, r2⟩ => ⟨(M, 0, false), r1, Holds.mkPur hK r2⟩
  · have h1 := last_split (l := M.fr.free) (List.length_pos_iff.2 hf)
    exact (ramTake_yes H 1 h1 (by omega) (by omega)).mono fun en w' ⟨r1, r2⟩ => ⟨(M.take 1 M.fr.free.dropLast (M.fr.free.getLastD 0), ((M.fr.free.getLastD 0 : Nat) : Int), true), r1, Holds.mkPur (hK.take h1 (by omega) (by omega)) r2⟩
/-- Drop of the list and Free of the pool, one behind the other. -/
theorem free_list {L : List OE} (hK : Kept M S L) (x : Int) :
    (S.tab.inb x = false ∧ atO L x = -1 ∧ S.free1 M x = (false, M, S)) ∨ ∃ (k : Nat) (q : RamS × PoolS), k < L.length ∧ atO L x = (k : Int) ∧ S.free1 M x = (true, q) ∧ Kept q.1 q.2 (L.eraseIdx k) ∧ Keep M q.1 := by
  cases hx : S.tab.inb x with
  | false => exact .inl ⟨rfl, hK.no hx, free_no hx⟩
  | true =>
    obtain ⟨n, ob, ln, g, V, e0, F⟩ := free_law hK.ok hx
    obtain ⟨k, hk, ha, hK2⟩ := hK.drop hx F
    rw [e0] at hK2 F
    exact .inr ⟨k, _, hk, ha, e0, hK2, F.keep⟩
theorem kept_last {L : List OE} {j : Nat} {q0 : OE} (hK : Kept M S (L.take (j + 1))) (hq : L[j]? = some q0) : ∃ q, S.free1 M q0.1 = (true, q) ∧ Kept q.1 q.2 (L.take j) := by
  have hjl := (List.getElem?_eq_some_iff.1 hq).1
  have hq2 : (L.take (j + 1))[j]? = some q0 := by rw [List.getElem?_take, if_pos (by omega), hq]
  have hin : S.tab.inb q0.1 = true := (hK.at (List.mem_of_getElem? hq2)).1
  rcases free_list hK q0.1 with ⟨h1, _⟩ | ⟨k, q, hk, ha, he, hK2, _⟩
  · rw [hin] at h1; cases h1
  · refine ⟨q, he, ?_⟩
    rcases atO_cases (L.take (j + 1)) q0.1 with ⟨h1, _⟩ | ⟨k', q', hk', h2, h3⟩
    · rw [ha] at h1; omega
    · have : k' = k := by rw [ha] at h2; omega
      subst this
      have hkj := nodup_at hK.nd hk' hq2 h3
      subst hkj
      have e : (L.take (k' + 1)).eraseIdx k' = L.take k' := by
        rw [(split_at hq2).2, List.take_take, Nat.min_eq_left (by omega), List.drop_of_length_le (by rw [List.length_take]; omega), List.append_nil]
      rw [e] at hK2
      exact hK2
end
end Go.Proofs.YtheblkofemobdaaGreat

/-
  gunnylaw20: PoolKeeps, the walk.
-/
namespace Go.Proofs.YtheblkofemobdaaGreat
open Go.RowKit

section
variable {e : Env} {w : World} {R : List HP}
theorem whole20' {pb tb rb : Nat} {S : PoolS} {M : RamS} {vl : Value} {L : List OE} (hK : Kept M S L) (H : Holds e w (oH vl L :: poolH pb tb rb S :: ramH rb M :: R)) :
    Calls Tryz.prog 31 #[.pointer (some ⟨pb, 0, none⟩), vl] w (RetEx e (fun _ : RamS => .bool true) (fun M' => pur (Kept M' S L ∧ Keep M M') :: oH vl L :: poolH pb tb rb S :: ramH rb M' :: R)) := by
  refine (whole20 hK H.q2).mono ?_
  rintro en w' ⟨M', r1, r2⟩
  exact ⟨M', r1, r2.p3.swap⟩
set_option maxRecDepth 100000 in
set_option maxHeartbeats 4000000 in
theorem poolKeeps_walk (H : Holds e w R) (v : Value) (n : Nat) (xs : List Value) (hn : n ≤ 4611686018427387904) (hr : ∀ w', Holds e w' R → Reads w' v 4 n xs) (hD : ∀ i, i < n → ∃ d, DeedAt xs i d) (fr us : Int) (hfr : 0 ≤ fr ∧ fr ≤ 255) (hus : 0 ≤ us ∧ us ≤ 255) :
    Calls Tryz.prog 5 #[.int .u8 fr, .int .u8 us, v] w (Ret e (.bool true) R) := by
  have CG := great20 H v n xs hn hr hD
  obtain ⟨a, c, rfl⟩ := (hr w H).shape
  have HR := Lib.hid hr
  have HDD := Lib.hid hD
  clear hr hD
  obtain ⟨hf1, hf2⟩ := hfr
  obtain ⟨hu1, hu2⟩ := hus
  obtain ⟨F, hF⟩ : ∃ F : Nat, 8 + fr % 40 = (F : Int) := ⟨(8 + fr % 40).toNat, by omega⟩
  obtain ⟨U, hU⟩ : ∃ U : Nat, us % 10 = (U : Int) := ⟨(us % 10).toNat, by omega⟩
  have hF8 : 8 ≤ F := by omega
  have hF96 : F ≤ 96 := by omega
  have hU10 : U ≤ 10 := by omega
  go_enter Tryz.func5, Tryz.ntmps5
  go_wp2_with fail
  refine CG.mono ?_
  rintro en w1 ⟨gb, rfl, H1⟩
  clear CG H
  cases gb with
  | true =>
    go_wp2_with fail
    refine (lives20 H1.drop).mono ?_
    rintro en w2 ⟨rfl, H2⟩
    clear H1
    go_wp2_with fail
    go_ret
    exact ⟨rfl, H2⟩
  | false =>
    have H2 := H1.drop
    clear H1
    go_wp2_with fail
    refine (ramNew_yes H2 F hF8 hF96).mono ?_
    rintro en w3 ⟨rb, rfl, H3⟩
    clear H2
    go_wp2_with fail
    refine (poNew H3 rb).mono ?_
    rintro en w4 ⟨⟨pb, tb⟩, rfl, H4⟩
    clear H3
    go_wp2_with fail
    go_loopw [10] (fun i wr => ∃ (k : Nat) (M : RamS), k ≤ U ∧ i = .int .i64 (k : Nat) ∧ Hid (Kept M PoolS.new []) ∧ Holds e wr (poolH pb tb rb PoolS.new :: ramH rb M :: R)) (fun i _ => U - (intOf i).toNat)
    case atStart => exact ⟨0, _, by omega, rfl, Lib.hid (Kept.new hF8 hF96), H4⟩
    case round =>
      obtain ⟨k, M, hk, rfl, HK, HX⟩ := hrel
      clear H4
      by_cases hlt : k < U
      · have hki : (k : Int) < U := by omega
        have CT := Lib.hid (takeAny HK.out HX.swap)
        clear HX
        go_wp2_with fail
        refine CT.out.mono ?_
        rintro en w5 ⟨p, rfl, H5⟩
        have HK2 := Lib.hid H5.purE
        have H6 := H5.drop.swap
        clear CT H5
        go_wp2_with fail
        go_roundw
        case rel => exact ⟨k + 1, p.1, by omega, by go_num, HK2, H6⟩
        case measure => simp [intOf]; omega
      · have hki : ¬ (k : Int) < U := by omega
        clear hk
        obtain ⟨u, hu⟩ : ∃ u, M.fr.count [1] = u := ⟨_, rfl⟩
        obtain ⟨f, X, hf, HF, hback⟩ := ram_fr HX.swap
        have HB := Lib.hid hback
        have CC := Lib.hid (ramCount ((HF.alloc (.cells #[.int .i64 1] 3)).drop) 1 (.slice (some ⟨wr.heap.size, 0, none⟩) 1 1) (fun n => Reads.drewN (reads_lit1 wr (.int .i64 1) 3)))
        rw [hu] at CC
        have HKU : Hid (Kept M PoolS.new [] ∧ M.fr.count [1] = u) := Lib.hid ⟨HK.out, hu⟩
        clear HF hback HX hu HK hlt
        go_wp2_with fail
        refine CC.out.mono ?_
        rintro en w5 ⟨rfl, H5⟩
        have H6 := o_nil ((HB.out _ H5).swap)
        clear CC H5 HB hf hki hU10 hU
        go_wp2_with fail
        go_loopw [12, 13] (fun vx i wr => ∃ (k : Nat) (M : RamS) (S : PoolS) (L : List OE), k ≤ n ∧ i = .int .i64 (k : Nat) ∧ Hid (Kept M S L ∧ M.fr.count [1] = u) ∧ Holds e wr (oH vx L :: poolH pb tb rb S :: ramH rb M :: R)) (fun _ i _ => n - (intOf i).toNat)
        case atStart => exact ⟨0, M, _, [], by omega, rfl, HKU, H6⟩
        case round =>
          clear H6 HKU
          obtain ⟨k, M, S, L, hk, rfl, HKU, HX⟩ := hrel
          obtain ⟨la, lc, hlv⟩ := o_shape HX
          subst hlv
          have hL512 := HKU.out.1.len512
          by_cases hlt : k < n
          · obtain ⟨d, hd⟩ := HDD.out k hlt
            obtain ⟨g, o, rfl, q0, q1, q2, q3⟩ := deed_cells (HR.out _ HX.drop.drop.drop) hlt hd
            obtain ⟨b11, b12⟩ := hd.b1
            obtain ⟨b21, b22⟩ := hd.b2
            obtain ⟨b31, b32⟩ := hd.b3
            have hki : (k : Int) < n := by omega
            clear hd
            obtain ⟨kd, nn, sz, sd⟩ := d
            dsimp only at q0 q1 q2 q3 b11 b12 b21 b22 b31 b32
            have H7 := HX.alloc (.cells #[.int .i64 kd, .int .i64 nn, .int .i64 sz, .int .u8 sd] 33)
            obtain ⟨bx, hbx⟩ : ∃ bx, wr.heap.size = bx := ⟨_, rfl⟩
            rw [hbx] at H7
            by_cases hk0 : kd = 0
            · subst hk0
              obtain ⟨m, hm⟩ : ∃ m : Nat, max 0 (min 9000 sz) = (m : Int) := ⟨(max 0 (min 9000 sz)).toNat, by omega⟩
              have hm9 : m ≤ 9000 := by omega
              have HBY := Lib.hid (bytes20 H7 m hm9 sd ⟨b31, b32⟩)
              clear HX
              go_wp2_with fail
              refine HBY.out.mono ?_
              rintro en w7 ⟨⟨vb, db⟩, rfl, H8⟩
              have hdb := H8.purE
              have CAL := Lib.hid (alloc20 (d := db) HKU.out.1 (by dsimp only at hdb; omega) H8.drop.d1.q3)
              clear HBY H7 H8 hdb q0 q1 q2 q3 hbx hm
              go_wp2_with fail
              refine CAL.out.mono ?_
              rintro en w8 ⟨⟨v2, L2, M2, S2⟩, rfl, H9⟩
              unfold allocPost at H9
              obtain ⟨hK2, hKp2⟩ := H9.purE
              have HKU2 : Hid (Kept M2 S2 L2 ∧ M2.fr.count [1] = u) := Lib.hid ⟨hK2, by rw [← HKU.out.2]; exact hKp2.count (by decide) (by decide)⟩
              have HX := H9.drop
              clear CAL H9 HKU hK2 hKp2
              have HKU := HKU2
              clear HKU2
              dsimp only at HX
              -- behind the switch: ok is true; HKU : Hid (Kept M2 S2 L2 ∧ M2.fr.count [1] = u); HX : oH :: poolH :: ramH :: R
              have CWH := Lib.hid (whole20' HKU.out.1 HX)
              go_wp2_with fail
              refine CWH.out.mono ?_
              rintro en w20 ⟨M9, rfl, HW⟩
              obtain ⟨hK9, hKp9⟩ := HW.purE
              have HKU9 : Hid (Kept M9 S2 L2 ∧ M9.fr.count [1] = u) := Lib.hid ⟨hK9, by rw [hKp9.count (by decide) (by decide)]; exact HKU.out.2⟩
              have HW2 := HW.drop
              obtain ⟨f9, X9, hf9, HF9, hback9⟩ := ram_fr HW2.p2
              have HB9 := Lib.hid hback9
              have CC9 := Lib.hid (ramCount ((HF9.alloc (.cells #[.int .i64 1] 3)).drop) 1 (.slice (some ⟨w20.heap.size, 0, none⟩) 1 1) (fun n => Reads.drewN (reads_lit1 w20 (.int .i64 1) 3)))
              rw [HKU9.out.2] at CC9
              clear CWH HW HW2 HF9 hback9 HX HKU hK9 hKp9
              go_wp2_with fail
              refine CC9.out.mono ?_
              rintro en w21 ⟨rfl, H21⟩
              have H22 := (HB9.out _ H21).q2
              clear CC9 H21 HB9 hf9
              go_wp2_with fail
              go_roundw
              case rel => exact ⟨k + 1, M9, S2, L2, by omega, by go_num, HKU9, H22⟩
              case measure => simp [intOf]; omega
            · by_cases hk1 : kd = 1
              · subst hk1
                obtain ⟨m, hm⟩ : ∃ m : Nat, max 0 (min 9000 sz) = (m : Int) := ⟨(max 0 (min 9000 sz)).toNat, by omega⟩
                have hm9 : m ≤ 9000 := by omega
                have HBY := Lib.hid (bytes20 H7 m hm9 sd ⟨b31, b32⟩)
                clear HX
                go_wp2_with fail
                refine HBY.out.mono ?_
                rintro en w7 ⟨⟨vb, db⟩, rfl, H8⟩
                have hdb := H8.purE
                have CAL := Lib.hid (alloc20 (d := db) HKU.out.1 (by dsimp only at hdb; omega) H8.drop.d1.q3)
                clear HBY H7 H8 hdb q0 q1 q2 q3 hbx hm
                go_wp2_with fail
                refine CAL.out.mono ?_
                rintro en w8 ⟨⟨v2, L2, M2, S2⟩, rfl, H9⟩
                unfold allocPost at H9
                obtain ⟨hK2, hKp2⟩ := H9.purE
                have HKU2 : Hid (Kept M2 S2 L2 ∧ M2.fr.count [1] = u) := Lib.hid ⟨hK2, by rw [← HKU.out.2]; exact hKp2.count (by decide) (by decide)⟩
                have HX := H9.drop
                clear CAL H9 HKU hK2 hKp2
                have HKU := HKU2
                clear HKU2
                dsimp only at HX
                -- behind the switch: ok is true; HKU : Hid (Kept M2 S2 L2 ∧ M2.fr.count [1] = u); HX : oH :: poolH :: ramH :: R
                have CWH := Lib.hid (whole20' HKU.out.1 HX)
                go_wp2_with fail
                refine CWH.out.mono ?_
                rintro en w20 ⟨M9, rfl, HW⟩
                obtain ⟨hK9, hKp9⟩ := HW.purE
                have HKU9 : Hid (Kept M9 S2 L2 ∧ M9.fr.count [1] = u) := Lib.hid ⟨hK9, by rw [hKp9.count (by decide) (by decide)]; exact HKU.out.2⟩
                have HW2 := HW.drop
                obtain ⟨f9, X9, hf9, HF9, hback9⟩ := ram_fr HW2.p2
                have HB9 := Lib.hid hback9
                have CC9 := Lib.hid (ramCount ((HF9.alloc (.cells #[.int .i64 1] 3)).drop) 1 (.slice (some ⟨w20.heap.size, 0, none⟩) 1 1) (fun n => Reads.drewN (reads_lit1 w20 (.int .i64 1) 3)))
                rw [HKU9.out.2] at CC9
                clear CWH HW HW2 HF9 hback9 HX HKU hK9 hKp9
                go_wp2_with fail
                refine CC9.out.mono ?_
                rintro en w21 ⟨rfl, H21⟩
                have H22 := (HB9.out _ H21).q2
                clear CC9 H21 HB9 hf9
                go_wp2_with fail
                go_roundw
                case rel => exact ⟨k + 1, M9, S2, L2, by omega, by go_num, HKU9, H22⟩
                case measure => simp [intOf]; omega
              · by_cases hk3 : kd = 3
                · subst hk3
                  by_cases hn0 : 0 ≤ nn ∧ nn < L.length
                  · obtain ⟨kn, rfl⟩ : ∃ kn : Nat, nn = (kn : Int) := ⟨nn.toNat, by omega⟩
                    have hkn : kn < L.length := by omega
                    obtain ⟨q, hq⟩ : ∃ q, L[kn]? = some q := ⟨_, List.getElem?_eq_getElem hkn⟩
                    obtain ⟨g2, o2, c2, vb2, hv2, y0, _, _⟩ := o_at hq H7.swap
                    cases hv2
                    have z1 : decide ((0 : Int) ≤ (kn : Int)) = true := decide_eq_true (by omega)
                    have z2 : decide ((kn : Int) < (L.length : Int)) = true := decide_eq_true (by omega)
                    have z3 : decide (kn < L.length) = true := decide_eq_true hkn
                    have z4 : (kn : Int) < (L.length : Int) := by omega
                    clear hn0 hq
                    have CSF := Lib.hid (shift20 HKU.out.1 (q.1) H7.drop)
                    clear HX
                    go_wp2_with fail
                    refine CSF.out.mono ?_
                    rintro en w8 ⟨⟨M2, S2⟩, rfl, H9⟩
                    unfold shiftPost at H9
                    obtain ⟨hK2, hKp2⟩ := H9.purE
                    have HKU2 : Hid (Kept M2 S2 L ∧ M2.fr.count [1] = u) := Lib.hid ⟨hK2, by rw [← HKU.out.2]; exact hKp2.count (by decide) (by decide)⟩
                    have HX := H9.drop
                    clear CSF H9 HKU hK2 hKp2 H7 q0 q1 q2 q3 hbx
                    have HKU := HKU2
                    clear HKU2
                    dsimp only at HX
                    -- behind the switch: ok is true; HKU : Hid (Kept M2 S2 L ∧ M2.fr.count [1] = u); HX : oH :: poolH :: ramH :: R
                    have CWH := Lib.hid (whole20' HKU.out.1 HX)
                    go_wp2_with fail
                    refine CWH.out.mono ?_
                    rintro en w20 ⟨M9, rfl, HW⟩
                    obtain ⟨hK9, hKp9⟩ := HW.purE
                    have HKU9 : Hid (Kept M9 S2 L ∧ M9.fr.count [1] = u) := Lib.hid ⟨hK9, by rw [hKp9.count (by decide) (by decide)]; exact HKU.out.2⟩
                    have HW2 := HW.drop
                    obtain ⟨f9, X9, hf9, HF9, hback9⟩ := ram_fr HW2.p2
                    have HB9 := Lib.hid hback9
                    have CC9 := Lib.hid (ramCount ((HF9.alloc (.cells #[.int .i64 1] 3)).drop) 1 (.slice (some ⟨w20.heap.size, 0, none⟩) 1 1) (fun n => Reads.drewN (reads_lit1 w20 (.int .i64 1) 3)))
                    rw [HKU9.out.2] at CC9
                    clear CWH HW HW2 HF9 hback9 HX HKU hK9 hKp9
                    go_wp2_with fail
                    refine CC9.out.mono ?_
                    rintro en w21 ⟨rfl, H21⟩
                    have H22 := (HB9.out _ H21).q2
                    clear CC9 H21 HB9 hf9
                    go_wp2_with fail
                    go_roundw
                    case rel => exact ⟨k + 1, M9, S2, L, by omega, by go_num, HKU9, H22⟩
                    case measure => simp [intOf]; omega
                  · by_cases hn1 : 0 ≤ nn
                    · have z1 : decide ((0 : Int) ≤ nn) = true := decide_eq_true hn1
                      have z2 : decide (nn < (L.length : Int)) = false := decide_eq_false (by omega)
                      clear hn0
                      have CSF := Lib.hid (shift20 HKU.out.1 (nn) H7.drop)
                      clear HX
                      go_wp2_with fail
                      refine CSF.out.mono ?_
                      rintro en w8 ⟨⟨M2, S2⟩, rfl, H9⟩
                      unfold shiftPost at H9
                      obtain ⟨hK2, hKp2⟩ := H9.purE
                      have HKU2 : Hid (Kept M2 S2 L ∧ M2.fr.count [1] = u) := Lib.hid ⟨hK2, by rw [← HKU.out.2]; exact hKp2.count (by decide) (by decide)⟩
                      have HX := H9.drop
                      clear CSF H9 HKU hK2 hKp2 H7 q0 q1 q2 q3 hbx
                      have HKU := HKU2
                      clear HKU2
                      dsimp only at HX
                      -- behind the switch: ok is true; HKU : Hid (Kept M2 S2 L ∧ M2.fr.count [1] = u); HX : oH :: poolH :: ramH :: R
                      have CWH := Lib.hid (whole20' HKU.out.1 HX)
                      go_wp2_with fail
                      refine CWH.out.mono ?_
                      rintro en w20 ⟨M9, rfl, HW⟩
                      obtain ⟨hK9, hKp9⟩ := HW.purE
                      have HKU9 : Hid (Kept M9 S2 L ∧ M9.fr.count [1] = u) := Lib.hid ⟨hK9, by rw [hKp9.count (by decide) (by decide)]; exact HKU.out.2⟩
                      have HW2 := HW.drop
                      obtain ⟨f9, X9, hf9, HF9, hback9⟩ := ram_fr HW2.p2
                      have HB9 := Lib.hid hback9
                      have CC9 := Lib.hid (ramCount ((HF9.alloc (.cells #[.int .i64 1] 3)).drop) 1 (.slice (some ⟨w20.heap.size, 0, none⟩) 1 1) (fun n => Reads.drewN (reads_lit1 w20 (.int .i64 1) 3)))
                      rw [HKU9.out.2] at CC9
                      clear CWH HW HW2 HF9 hback9 HX HKU hK9 hKp9
                      go_wp2_with fail
                      refine CC9.out.mono ?_
                      rintro en w21 ⟨rfl, H21⟩
                      have H22 := (HB9.out _ H21).q2
                      clear CC9 H21 HB9 hf9
                      go_wp2_with fail
                      go_roundw
                      case rel => exact ⟨k + 1, M9, S2, L, by omega, by go_num, HKU9, H22⟩
                      case measure => simp [intOf]; omega
                    · have z1 : decide ((0 : Int) ≤ nn) = false := decide_eq_false hn1
                      clear hn0
                      have CSF := Lib.hid (shift20 HKU.out.1 (nn) H7.drop)
                      clear HX
                      go_wp2_with fail
                      refine CSF.out.mono ?_
                      rintro en w8 ⟨⟨M2, S2⟩, rfl, H9⟩
                      unfold shiftPost at H9
                      obtain ⟨hK2, hKp2⟩ := H9.purE
                      have HKU2 : Hid (Kept M2 S2 L ∧ M2.fr.count [1] = u) := Lib.hid ⟨hK2, by rw [← HKU.out.2]; exact hKp2.count (by decide) (by decide)⟩
                      have HX := H9.drop
                      clear CSF H9 HKU hK2 hKp2 H7 q0 q1 q2 q3 hbx
                      have HKU := HKU2
                      clear HKU2
                      dsimp only at HX
                      -- behind the switch: ok is true; HKU : Hid (Kept M2 S2 L ∧ M2.fr.count [1] = u); HX : oH :: poolH :: ramH :: R
                      have CWH := Lib.hid (whole20' HKU.out.1 HX)
                      go_wp2_with fail
                      refine CWH.out.mono ?_
                      rintro en w20 ⟨M9, rfl, HW⟩
                      obtain ⟨hK9, hKp9⟩ := HW.purE
                      have HKU9 : Hid (Kept M9 S2 L ∧ M9.fr.count [1] = u) := Lib.hid ⟨hK9, by rw [hKp9.count (by decide) (by decide)]; exact HKU.out.2⟩
                      have HW2 := HW.drop
                      obtain ⟨f9, X9, hf9, HF9, hback9⟩ := ram_fr HW2.p2
                      have HB9 := Lib.hid hback9
                      have CC9 := Lib.hid (ramCount ((HF9.alloc (.cells #[.int .i64 1] 3)).drop) 1 (.slice (some ⟨w20.heap.size, 0, none⟩) 1 1) (fun n => Reads.drewN (reads_lit1 w20 (.int .i64 1) 3)))
                      rw [HKU9.out.2] at CC9
                      clear CWH HW HW2 HF9 hback9 HX HKU hK9 hKp9
                      go_wp2_with fail
                      refine CC9.out.mono ?_
                      rintro en w21 ⟨rfl, H21⟩
                      have H22 := (HB9.out _ H21).q2
                      clear CC9 H21 HB9 hf9
                      go_wp2_with fail
                      go_roundw
                      case rel => exact ⟨k + 1, M9, S2, L, by omega, by go_num, HKU9, H22⟩
                      case measure => simp [intOf]; omega
                · by_cases hk2 : kd = 2
                  · subst hk2
                    by_cases hn0 : 0 ≤ nn ∧ nn < L.length
                    · obtain ⟨kn, rfl⟩ : ∃ kn : Nat, nn = (kn : Int) := ⟨nn.toNat, by omega⟩
                      have hkn : kn < L.length := by omega
                      obtain ⟨q, hq⟩ : ∃ q, L[kn]? = some q := ⟨_, List.getElem?_eq_getElem hkn⟩
                      obtain ⟨g2, o2, c2, vb2, hv2, y0, _, _⟩ := o_at hq H7.swap
                      cases hv2
                      have z1 : decide ((0 : Int) ≤ (kn : Int)) = true := decide_eq_true (by omega)
                      have z2 : decide ((kn : Int) < (L.length : Int)) = true := decide_eq_true (by omega)
                      have z3 : decide (kn < L.length) = true := decide_eq_true hkn
                      have z4 : (kn : Int) < (L.length : Int) := by omega
                      clear hn0 hq
                      have hP := HKU.out.1.ok
                      rcases free_list HKU.out.1 (q.1) with ⟨hin, hat, hfr1⟩ | ⟨kk, ⟨M2, S2⟩, hkk, hat, hfr1, hK2, hKp2⟩
                      · have CD := Lib.hid (r20Drop_no L _ (q.1) (by omega) hat H7.drop)
                        have CF : Hid (∀ w' Y, Holds e w' (poolH pb tb rb S :: ramH rb M :: Y) → Calls Tryz.prog 13 #[.pointer (some ⟨pb, 0, none⟩), .int .i64 (q.1)] w' (Ret e (.bool false) (poolH pb tb rb S :: ramH rb M :: Y))) := Lib.hid fun w' Y h => by
                          have h1 := poFree h hP (q.1)
                          rw [hfr1] at h1
                          exact h1
                        clear hP hin hat hfr1 HX
                        go_wp2_with fail
                        refine CD.out.mono ?_
                        rintro en w7 ⟨rfl, H8⟩
                        clear CD H7 q0 q1 q2 q3 hbx
                        go_wp2_with fail
                        refine (CF.out _ _ H8.q2).mono ?_
                        rintro en w8 ⟨rfl, H9⟩
                        have HX := H9.p2
                        clear CF H8 H9
                        -- behind the switch: ok is true; HKU : Hid (Kept M S L ∧ M.fr.count [1] = u); HX : oH :: poolH :: ramH :: R
                        have CWH := Lib.hid (whole20' HKU.out.1 HX)
                        go_wp2_with fail
                        refine CWH.out.mono ?_
                        rintro en w20 ⟨M9, rfl, HW⟩
                        obtain ⟨hK9, hKp9⟩ := HW.purE
                        have HKU9 : Hid (Kept M9 S L ∧ M9.fr.count [1] = u) := Lib.hid ⟨hK9, by rw [hKp9.count (by decide) (by decide)]; exact HKU.out.2⟩
                        have HW2 := HW.drop
                        obtain ⟨f9, X9, hf9, HF9, hback9⟩ := ram_fr HW2.p2
                        have HB9 := Lib.hid hback9
                        have CC9 := Lib.hid (ramCount ((HF9.alloc (.cells #[.int .i64 1] 3)).drop) 1 (.slice (some ⟨w20.heap.size, 0, none⟩) 1 1) (fun n => Reads.drewN (reads_lit1 w20 (.int .i64 1) 3)))
                        rw [HKU9.out.2] at CC9
                        clear CWH HW HW2 HF9 hback9 HX HKU hK9 hKp9
                        go_wp2_with fail
                        refine CC9.out.mono ?_
                        rintro en w21 ⟨rfl, H21⟩
                        have H22 := (HB9.out _ H21).q2
                        clear CC9 H21 HB9 hf9
                        go_wp2_with fail
                        go_roundw
                        case rel => exact ⟨k + 1, M9, S, L, by omega, by go_num, HKU9, H22⟩
                        case measure => simp [intOf]; omega
                      · have CD := Lib.hid (r20Drop_yes L _ (q.1) (by omega) hkk hat H7.drop)
                        have CF : Hid (∀ w' Y, Holds e w' (poolH pb tb rb S :: ramH rb M :: Y) → Calls Tryz.prog 13 #[.pointer (some ⟨pb, 0, none⟩), .int .i64 (q.1)] w' (Ret e (.bool true) (poolH pb tb rb S2 :: ramH rb M2 :: Y))) := Lib.hid fun w' Y h => by
                          have h1 := poFree h hP (q.1)
                          rw [hfr1] at h1
                          exact h1
                        have HKU2 : Hid (Kept M2 S2 (L.eraseIdx kk) ∧ M2.fr.count [1] = u) := Lib.hid ⟨hK2, by rw [← HKU.out.2]; exact hKp2.count (by decide) (by decide)⟩
                        clear hP hat hfr1 HX hK2 hKp2 hkk
                        go_wp2_with fail
                        refine CD.out.mono ?_
                        rintro en w7 ⟨v7, rfl, H8⟩
                        clear CD H7 q0 q1 q2 q3 hbx
                        go_wp2_with fail
                        refine (CF.out _ _ H8.q2).mono ?_
                        rintro en w8 ⟨rfl, H9⟩
                        have HX := H9.p2
                        clear CF H8 H9 HKU
                        have HKU := HKU2
                        clear HKU2
                        -- behind the switch: ok is true; HKU : Hid (Kept M2 S2 (L.eraseIdx kk) ∧ M2.fr.count [1] = u); HX : oH :: poolH :: ramH :: R
                        have CWH := Lib.hid (whole20' HKU.out.1 HX)
                        go_wp2_with fail
                        refine CWH.out.mono ?_
                        rintro en w20 ⟨M9, rfl, HW⟩
                        obtain ⟨hK9, hKp9⟩ := HW.purE
                        have HKU9 : Hid (Kept M9 S2 (L.eraseIdx kk) ∧ M9.fr.count [1] = u) := Lib.hid ⟨hK9, by rw [hKp9.count (by decide) (by decide)]; exact HKU.out.2⟩
                        have HW2 := HW.drop
                        obtain ⟨f9, X9, hf9, HF9, hback9⟩ := ram_fr HW2.p2
                        have HB9 := Lib.hid hback9
                        have CC9 := Lib.hid (ramCount ((HF9.alloc (.cells #[.int .i64 1] 3)).drop) 1 (.slice (some ⟨w20.heap.size, 0, none⟩) 1 1) (fun n => Reads.drewN (reads_lit1 w20 (.int .i64 1) 3)))
                        rw [HKU9.out.2] at CC9
                        clear CWH HW HW2 HF9 hback9 HX HKU hK9 hKp9
                        go_wp2_with fail
                        refine CC9.out.mono ?_
                        rintro en w21 ⟨rfl, H21⟩
                        have H22 := (HB9.out _ H21).q2
                        clear CC9 H21 HB9 hf9
                        go_wp2_with fail
                        go_roundw
                        case rel => exact ⟨k + 1, M9, S2, (L.eraseIdx kk), by omega, by go_num, HKU9, H22⟩
                        case measure => simp [intOf]; omega
                    · by_cases hn1 : 0 ≤ nn
                      · have z1 : decide ((0 : Int) ≤ nn) = true := decide_eq_true hn1
                        have z2 : decide (nn < (L.length : Int)) = false := decide_eq_false (by omega)
                        clear hn0
                        have hP := HKU.out.1.ok
                        rcases free_list HKU.out.1 (nn) with ⟨hin, hat, hfr1⟩ | ⟨kk, ⟨M2, S2⟩, hkk, hat, hfr1, hK2, hKp2⟩
                        · have CD := Lib.hid (r20Drop_no L _ (nn) (by omega) hat H7.drop)
                          have CF : Hid (∀ w' Y, Holds e w' (poolH pb tb rb S :: ramH rb M :: Y) → Calls Tryz.prog 13 #[.pointer (some ⟨pb, 0, none⟩), .int .i64 (nn)] w' (Ret e (.bool false) (poolH pb tb rb S :: ramH rb M :: Y))) := Lib.hid fun w' Y h => by
                            have h1 := poFree h hP (nn)
                            rw [hfr1] at h1
                            exact h1
                          clear hP hin hat hfr1 HX
                          go_wp2_with fail
                          refine CD.out.mono ?_
                          rintro en w7 ⟨rfl, H8⟩
                          clear CD H7 q0 q1 q2 q3 hbx
                          go_wp2_with fail
                          refine (CF.out _ _ H8.q2).mono ?_
                          rintro en w8 ⟨rfl, H9⟩
                          have HX := H9.p2
                          clear CF H8 H9
                          -- behind the switch: ok is true; HKU : Hid (Kept M S L ∧ M.fr.count [1] = u); HX : oH :: poolH :: ramH :: R
                          have CWH := Lib.hid (whole20' HKU.out.1 HX)
                          go_wp2_with fail
                          refine CWH.out.mono ?_
                          rintro en w20 ⟨M9, rfl, HW⟩
                          obtain ⟨hK9, hKp9⟩ := HW.purE
                          have HKU9 : Hid (Kept M9 S L ∧ M9.fr.count [1] = u) := Lib.hid ⟨hK9, by rw [hKp9.count (by decide) (by decide)]; exact HKU.out.2⟩
                          have HW2 := HW.drop
                          obtain ⟨f9, X9, hf9, HF9, hback9⟩ := ram_fr HW2.p2
                          have HB9 := Lib.hid hback9
                          have CC9 := Lib.hid (ramCount ((HF9.alloc (.cells #[.int .i64 1] 3)).drop) 1 (.slice (some ⟨w20.heap.size, 0, none⟩) 1 1) (fun n => Reads.drewN (reads_lit1 w20 (.int .i64 1) 3)))
                          rw [HKU9.out.2] at CC9
                          clear CWH HW HW2 HF9 hback9 HX HKU hK9 hKp9
                          go_wp2_with fail
                          refine CC9.out.mono ?_
                          rintro en w21 ⟨rfl, H21⟩
                          have H22 := (HB9.out _ H21).q2
                          clear CC9 H21 HB9 hf9
                          go_wp2_with fail
                          go_roundw
                          case rel => exact ⟨k + 1, M9, S, L, by omega, by go_num, HKU9, H22⟩
                          case measure => simp [intOf]; omega
                        · have CD := Lib.hid (r20Drop_yes L _ (nn) (by omega) hkk hat H7.drop)
                          have CF : Hid (∀ w' Y, Holds e w' (poolH pb tb rb S :: ramH rb M :: Y) → Calls Tryz.prog 13 #[.pointer (some ⟨pb, 0, none⟩), .int .i64 (nn)] w' (Ret e (.bool true) (poolH pb tb rb S2 :: ramH rb M2 :: Y))) := Lib.hid fun w' Y h => by
                            have h1 := poFree h hP (nn)
                            rw [hfr1] at h1
                            exact h1
                          have HKU2 : Hid (Kept M2 S2 (L.eraseIdx kk) ∧ M2.fr.count [1] = u) := Lib.hid ⟨hK2, by rw [← HKU.out.2]; exact hKp2.count (by decide) (by decide)⟩
                          clear hP hat hfr1 HX hK2 hKp2 hkk
                          go_wp2_with fail
                          refine CD.out.mono ?_
                          rintro en w7 ⟨v7, rfl, H8⟩
                          clear CD H7 q0 q1 q2 q3 hbx
                          go_wp2_with fail
                          refine (CF.out _ _ H8.q2).mono ?_
                          rintro en w8 ⟨rfl, H9⟩
                          have HX := H9.p2
                          clear CF H8 H9 HKU
                          have HKU := HKU2
                          clear HKU2
                          -- behind the switch: ok is true; HKU : Hid (Kept M2 S2 (L.eraseIdx kk) ∧ M2.fr.count [1] = u); HX : oH :: poolH :: ramH :: R
                          have CWH := Lib.hid (whole20' HKU.out.1 HX)
                          go_wp2_with fail
                          refine CWH.out.mono ?_
                          rintro en w20 ⟨M9, rfl, HW⟩
                          obtain ⟨hK9, hKp9⟩ := HW.purE
                          have HKU9 : Hid (Kept M9 S2 (L.eraseIdx kk) ∧ M9.fr.count [1] = u) := Lib.hid ⟨hK9, by rw [hKp9.count (by decide) (by decide)]; exact HKU.out.2⟩
                          have HW2 := HW.drop
                          obtain ⟨f9, X9, hf9, HF9, hback9⟩ := ram_fr HW2.p2
                          have HB9 := Lib.hid hback9
                          have CC9 := Lib.hid (ramCount ((HF9.alloc (.cells #[.int .i64 1] 3)).drop) 1 (.slice (some ⟨w20.heap.size, 0, none⟩) 1 1) (fun n => Reads.drewN (reads_lit1 w20 (.int .i64 1) 3)))
                          rw [HKU9.out.2] at CC9
                          clear CWH HW HW2 HF9 hback9 HX HKU hK9 hKp9
                          go_wp2_with fail
                          refine CC9.out.mono ?_
                          rintro en w21 ⟨rfl, H21⟩
                          have H22 := (HB9.out _ H21).q2
                          clear CC9 H21 HB9 hf9
                          go_wp2_with fail
                          go_roundw
                          case rel => exact ⟨k + 1, M9, S2, (L.eraseIdx kk), by omega, by go_num, HKU9, H22⟩
                          case measure => simp [intOf]; omega
                      · have z1 : decide ((0 : Int) ≤ nn) = false := decide_eq_false hn1
                        clear hn0
                        have hP := HKU.out.1.ok
                        rcases free_list HKU.out.1 (nn) with ⟨hin, hat, hfr1⟩ | ⟨kk, ⟨M2, S2⟩, hkk, hat, hfr1, hK2, hKp2⟩
                        · have CD := Lib.hid (r20Drop_no L _ (nn) (by omega) hat H7.drop)
                          have CF : Hid (∀ w' Y, Holds e w' (poolH pb tb rb S :: ramH rb M :: Y) → Calls Tryz.prog 13 #[.pointer (some ⟨pb, 0, none⟩), .int .i64 (nn)] w' (Ret e (.bool false) (poolH pb tb rb S :: ramH rb M :: Y))) := Lib.hid fun w' Y h => by
                            have h1 := poFree h hP (nn)
                            rw [hfr1] at h1
                            exact h1
                          clear hP hin hat hfr1 HX
                          go_wp2_with fail
                          refine CD.out.mono ?_
                          rintro en w7 ⟨rfl, H8⟩
                          clear CD H7 q0 q1 q2 q3 hbx
                          go_wp2_with fail
                          refine (CF.out _ _ H8.q2).mono ?_
                          rintro en w8 ⟨rfl, H9⟩
                          have HX := H9.p2
                          clear CF H8 H9
                          -- behind the switch: ok is true; HKU : Hid (Kept M S L ∧ M.fr.count [1] = u); HX : oH :: poolH :: ramH :: R
                          have CWH := Lib.hid (whole20' HKU.out.1 HX)
                          go_wp2_with fail
                          refine CWH.out.mono ?_
                          rintro en w20 ⟨M9, rfl, HW⟩
                          obtain ⟨hK9, hKp9⟩ := HW.purE
                          have HKU9 : Hid (Kept M9 S L ∧ M9.fr.count [1] = u) := Lib.hid ⟨hK9, by rw [hKp9.count (by decide) (by decide)]; exact HKU.out.2⟩
                          have HW2 := HW.drop
                          obtain ⟨f9, X9, hf9, HF9, hback9⟩ := ram_fr HW2.p2
                          have HB9 := Lib.hid hback9
                          have CC9 := Lib.hid (ramCount ((HF9.alloc (.cells #[.int .i64 1] 3)).drop) 1 (.slice (some ⟨w20.heap.size, 0, none⟩) 1 1) (fun n => Reads.drewN (reads_lit1 w20 (.int .i64 1) 3)))
                          rw [HKU9.out.2] at CC9
                          clear CWH HW HW2 HF9 hback9 HX HKU hK9 hKp9
                          go_wp2_with fail
                          refine CC9.out.mono ?_
                          rintro en w21 ⟨rfl, H21⟩
                          have H22 := (HB9.out _ H21).q2
                          clear CC9 H21 HB9 hf9
                          go_wp2_with fail
                          go_roundw
                          case rel => exact ⟨k + 1, M9, S, L, by omega, by go_num, HKU9, H22⟩
                          case measure => simp [intOf]; omega
                        · have CD := Lib.hid (r20Drop_yes L _ (nn) (by omega) hkk hat H7.drop)
                          have CF : Hid (∀ w' Y, Holds e w' (poolH pb tb rb S :: ramH rb M :: Y) → Calls Tryz.prog 13 #[.pointer (some ⟨pb, 0, none⟩), .int .i64 (nn)] w' (Ret e (.bool true) (poolH pb tb rb S2 :: ramH rb M2 :: Y))) := Lib.hid fun w' Y h => by
                            have h1 := poFree h hP (nn)
                            rw [hfr1] at h1
                            exact h1
                          have HKU2 : Hid (Kept M2 S2 (L.eraseIdx kk) ∧ M2.fr.count [1] = u) := Lib.hid ⟨hK2, by rw [← HKU.out.2]; exact hKp2.count (by decide) (by decide)⟩
                          clear hP hat hfr1 HX hK2 hKp2 hkk
                          go_wp2_with fail
                          refine CD.out.mono ?_
                          rintro en w7 ⟨v7, rfl, H8⟩
                          clear CD H7 q0 q1 q2 q3 hbx
                          go_wp2_with fail
                          refine (CF.out _ _ H8.q2).mono ?_
                          rintro en w8 ⟨rfl, H9⟩
                          have HX := H9.p2
                          clear CF H8 H9 HKU
                          have HKU := HKU2
                          clear HKU2
                          -- behind the switch: ok is true; HKU : Hid (Kept M2 S2 (L.eraseIdx kk) ∧ M2.fr.count [1] = u); HX : oH :: poolH :: ramH :: R
                          have CWH := Lib.hid (whole20' HKU.out.1 HX)
                          go_wp2_with fail
                          refine CWH.out.mono ?_
                          rintro en w20 ⟨M9, rfl, HW⟩
                          obtain ⟨hK9, hKp9⟩ := HW.purE
                          have HKU9 : Hid (Kept M9 S2 (L.eraseIdx kk) ∧ M9.fr.count [1] = u) := Lib.hid ⟨hK9, by rw [hKp9.count (by decide) (by decide)]; exact HKU.out.2⟩
                          have HW2 := HW.drop
                          obtain ⟨f9, X9, hf9, HF9, hback9⟩ := ram_fr HW2.p2
                          have HB9 := Lib.hid hback9
                          have CC9 := Lib.hid (ramCount ((HF9.alloc (.cells #[.int .i64 1] 3)).drop) 1 (.slice (some ⟨w20.heap.size, 0, none⟩) 1 1) (fun n => Reads.drewN (reads_lit1 w20 (.int .i64 1) 3)))
                          rw [HKU9.out.2] at CC9
                          clear CWH HW HW2 HF9 hback9 HX HKU hK9 hKp9
                          go_wp2_with fail
                          refine CC9.out.mono ?_
                          rintro en w21 ⟨rfl, H21⟩
                          have H22 := (HB9.out _ H21).q2
                          clear CC9 H21 HB9 hf9
                          go_wp2_with fail
                          go_roundw
                          case rel => exact ⟨k + 1, M9, S2, (L.eraseIdx kk), by omega, by go_num, HKU9, H22⟩
                          case measure => simp [intOf]; omega
                  · have e0 : (kd == 0) = false := by simp [hk0]
                    have e1 : (kd == 1) = false := by simp [hk1]
                    have e3 : (kd == 3) = false := by simp [hk3]
                    by_cases hk4 : kd < 2
                    · have e4 : decide (2 ≤ kd) = false := decide_eq_false (by omega)
                      have hP := HKU.out.1.ok
                      rcases free_list HKU.out.1 (nn) with ⟨hin, hat, hfr1⟩ | ⟨kk, ⟨M2, S2⟩, hkk, hat, hfr1, hK2, hKp2⟩
                      · have CD := Lib.hid (r20Drop_no L _ (nn) (by omega) hat H7.drop)
                        have CF : Hid (∀ w' Y, Holds e w' (poolH pb tb rb S :: ramH rb M :: Y) → Calls Tryz.prog 13 #[.pointer (some ⟨pb, 0, none⟩), .int .i64 (nn)] w' (Ret e (.bool false) (poolH pb tb rb S :: ramH rb M :: Y))) := Lib.hid fun w' Y h => by
                          have h1 := poFree h hP (nn)
                          rw [hfr1] at h1
                          exact h1
                        clear hP hin hat hfr1 HX
                        go_wp2_with fail
                        refine CD.out.mono ?_
                        rintro en w7 ⟨rfl, H8⟩
                        clear CD H7 q0 q1 q2 q3 hbx
                        go_wp2_with fail
                        refine (CF.out _ _ H8.q2).mono ?_
                        rintro en w8 ⟨rfl, H9⟩
                        have HX := H9.p2
                        clear CF H8 H9
                        -- behind the switch: ok is true; HKU : Hid (Kept M S L ∧ M.fr.count [1] = u); HX : oH :: poolH :: ramH :: R
                        have CWH := Lib.hid (whole20' HKU.out.1 HX)
                        go_wp2_with fail
                        refine CWH.out.mono ?_
                        rintro en w20 ⟨M9, rfl, HW⟩
                        obtain ⟨hK9, hKp9⟩ := HW.purE
                        have HKU9 : Hid (Kept M9 S L ∧ M9.fr.count [1] = u) := Lib.hid ⟨hK9, by rw [hKp9.count (by decide) (by decide)]; exact HKU.out.2⟩
                        have HW2 := HW.drop
                        obtain ⟨f9, X9, hf9, HF9, hback9⟩ := ram_fr HW2.p2
                        have HB9 := Lib.hid hback9
                        have CC9 := Lib.hid (ramCount ((HF9.alloc (.cells #[.int .i64 1] 3)).drop) 1 (.slice (some ⟨w20.heap.size, 0, none⟩) 1 1) (fun n => Reads.drewN (reads_lit1 w20 (.int .i64 1) 3)))
                        rw [HKU9.out.2] at CC9
                        clear CWH HW HW2 HF9 hback9 HX HKU hK9 hKp9
                        go_wp2_with fail
                        refine CC9.out.mono ?_
                        rintro en w21 ⟨rfl, H21⟩
                        have H22 := (HB9.out _ H21).q2
                        clear CC9 H21 HB9 hf9
                        go_wp2_with fail
                        go_roundw
                        case rel => exact ⟨k + 1, M9, S, L, by omega, by go_num, HKU9, H22⟩
                        case measure => simp [intOf]; omega
                      · have CD := Lib.hid (r20Drop_yes L _ (nn) (by omega) hkk hat H7.drop)
                        have CF : Hid (∀ w' Y, Holds e w' (poolH pb tb rb S :: ramH rb M :: Y) → Calls Tryz.prog 13 #[.pointer (some ⟨pb, 0, none⟩), .int .i64 (nn)] w' (Ret e (.bool true) (poolH pb tb rb S2 :: ramH rb M2 :: Y))) := Lib.hid fun w' Y h => by
                          have h1 := poFree h hP (nn)
                          rw [hfr1] at h1
                          exact h1
                        have HKU2 : Hid (Kept M2 S2 (L.eraseIdx kk) ∧ M2.fr.count [1] = u) := Lib.hid ⟨hK2, by rw [← HKU.out.2]; exact hKp2.count (by decide) (by decide)⟩
                        clear hP hat hfr1 HX hK2 hKp2 hkk
                        go_wp2_with fail
                        refine CD.out.mono ?_
                        rintro en w7 ⟨v7, rfl, H8⟩
                        clear CD H7 q0 q1 q2 q3 hbx
                        go_wp2_with fail
                        refine (CF.out _ _ H8.q2).mono ?_
                        rintro en w8 ⟨rfl, H9⟩
                        have HX := H9.p2
                        clear CF H8 H9 HKU
                        have HKU := HKU2
                        clear HKU2
                        -- behind the switch: ok is true; HKU : Hid (Kept M2 S2 (L.eraseIdx kk) ∧ M2.fr.count [1] = u); HX : oH :: poolH :: ramH :: R
                        have CWH := Lib.hid (whole20' HKU.out.1 HX)
                        go_wp2_with fail
                        refine CWH.out.mono ?_
                        rintro en w20 ⟨M9, rfl, HW⟩
                        obtain ⟨hK9, hKp9⟩ := HW.purE
                        have HKU9 : Hid (Kept M9 S2 (L.eraseIdx kk) ∧ M9.fr.count [1] = u) := Lib.hid ⟨hK9, by rw [hKp9.count (by decide) (by decide)]; exact HKU.out.2⟩
                        have HW2 := HW.drop
                        obtain ⟨f9, X9, hf9, HF9, hback9⟩ := ram_fr HW2.p2
                        have HB9 := Lib.hid hback9
                        have CC9 := Lib.hid (ramCount ((HF9.alloc (.cells #[.int .i64 1] 3)).drop) 1 (.slice (some ⟨w20.heap.size, 0, none⟩) 1 1) (fun n => Reads.drewN (reads_lit1 w20 (.int .i64 1) 3)))
                        rw [HKU9.out.2] at CC9
                        clear CWH HW HW2 HF9 hback9 HX HKU hK9 hKp9
                        go_wp2_with fail
                        refine CC9.out.mono ?_
                        rintro en w21 ⟨rfl, H21⟩
                        have H22 := (HB9.out _ H21).q2
                        clear CC9 H21 HB9 hf9
                        go_wp2_with fail
                        go_roundw
                        case rel => exact ⟨k + 1, M9, S2, (L.eraseIdx kk), by omega, by go_num, HKU9, H22⟩
                        case measure => simp [intOf]; omega
                    · have e4 : decide (2 ≤ kd) = true := decide_eq_true (by omega)
                      have e5 : decide (kd < 4) = false := decide_eq_false (by omega)
                      have hP := HKU.out.1.ok
                      rcases free_list HKU.out.1 (nn) with ⟨hin, hat, hfr1⟩ | ⟨kk, ⟨M2, S2⟩, hkk, hat, hfr1, hK2, hKp2⟩
                      · have CD := Lib.hid (r20Drop_no L _ (nn) (by omega) hat H7.drop)
                        have CF : Hid (∀ w' Y, Holds e w' (poolH pb tb rb S :: ramH rb M :: Y) → Calls Tryz.prog 13 #[.pointer (some ⟨pb, 0, none⟩), .int .i64 (nn)] w' (Ret e (.bool false) (poolH pb tb rb S :: ramH rb M :: Y))) := Lib.hid fun w' Y h => by
                          have h1 := poFree h hP (nn)
                          rw [hfr1] at h1
                          exact h1
                        clear hP hin hat hfr1 HX
                        go_wp2_with fail
                        refine CD.out.mono ?_
                        rintro en w7 ⟨rfl, H8⟩
                        clear CD H7 q0 q1 q2 q3 hbx
                        go_wp2_with fail
                        refine (CF.out _ _ H8.q2).mono ?_
                        rintro en w8 ⟨rfl, H9⟩
                        have HX := H9.p2
                        clear CF H8 H9
                        -- behind the switch: ok is true; HKU : Hid (Kept M S L ∧ M.fr.count [1] = u); HX : oH :: poolH :: ramH :: R
                        have CWH := Lib.hid (whole20' HKU.out.1 HX)
                        go_wp2_with fail
                        refine CWH.out.mono ?_
                        rintro en w20 ⟨M9, rfl, HW⟩
                        obtain ⟨hK9, hKp9⟩ := HW.purE
                        have HKU9 : Hid (Kept M9 S L ∧ M9.fr.count [1] = u) := Lib.hid ⟨hK9, by rw [hKp9.count (by decide) (by decide)]; exact HKU.out.2⟩
                        have HW2 := HW.drop
                        obtain ⟨f9, X9, hf9, HF9, hback9⟩ := ram_fr HW2.p2
                        have HB9 := Lib.hid hback9
                        have CC9 := Lib.hid (ramCount ((HF9.alloc (.cells #[.int .i64 1] 3)).drop) 1 (.slice (some ⟨w20.heap.size, 0, none⟩) 1 1) (fun n => Reads.drewN (reads_lit1 w20 (.int .i64 1) 3)))
                        rw [HKU9.out.2] at CC9
                        clear CWH HW HW2 HF9 hback9 HX HKU hK9 hKp9
                        go_wp2_with fail
                        refine CC9.out.mono ?_
                        rintro en w21 ⟨rfl, H21⟩
                        have H22 := (HB9.out _ H21).q2
                        clear CC9 H21 HB9 hf9
                        go_wp2_with fail
                        go_roundw
                        case rel => exact ⟨k + 1, M9, S, L, by omega, by go_num, HKU9, H22⟩
                        case measure => simp [intOf]; omega
                      · have CD := Lib.hid (r20Drop_yes L _ (nn) (by omega) hkk hat H7.drop)
                        have CF : Hid (∀ w' Y, Holds e w' (poolH pb tb rb S :: ramH rb M :: Y) → Calls Tryz.prog 13 #[.pointer (some ⟨pb, 0, none⟩), .int .i64 (nn)] w' (Ret e (.bool true) (poolH pb tb rb S2 :: ramH rb M2 :: Y))) := Lib.hid fun w' Y h => by
                          have h1 := poFree h hP (nn)
                          rw [hfr1] at h1
                          exact h1
                        have HKU2 : Hid (Kept M2 S2 (L.eraseIdx kk) ∧ M2.fr.count [1] = u) := Lib.hid ⟨hK2, by rw [← HKU.out.2]; exact hKp2.count (by decide) (by decide)⟩
                        clear hP hat hfr1 HX hK2 hKp2 hkk
                        go_wp2_with fail
                        refine CD.out.mono ?_
                        rintro en w7 ⟨v7, rfl, H8⟩
                        clear CD H7 q0 q1 q2 q3 hbx
                        go_wp2_with fail
                        refine (CF.out _ _ H8.q2).mono ?_
                        rintro en w8 ⟨rfl, H9⟩
                        have HX := H9.p2
                        clear CF H8 H9 HKU
                        have HKU := HKU2
                        clear HKU2
                        -- behind the switch: ok is true; HKU : Hid (Kept M2 S2 (L.eraseIdx kk) ∧ M2.fr.count [1] = u); HX : oH :: poolH :: ramH :: R
                        have CWH := Lib.hid (whole20' HKU.out.1 HX)
                        go_wp2_with fail
                        refine CWH.out.mono ?_
                        rintro en w20 ⟨M9, rfl, HW⟩
                        obtain ⟨hK9, hKp9⟩ := HW.purE
                        have HKU9 : Hid (Kept M9 S2 (L.eraseIdx kk) ∧ M9.fr.count [1] = u) := Lib.hid ⟨hK9, by rw [hKp9.count (by decide) (by decide)]; exact HKU.out.2⟩
                        have HW2 := HW.drop
                        obtain ⟨f9, X9, hf9, HF9, hback9⟩ := ram_fr HW2.p2
                        have HB9 := Lib.hid hback9
                        have CC9 := Lib.hid (ramCount ((HF9.alloc (.cells #[.int .i64 1] 3)).drop) 1 (.slice (some ⟨w20.heap.size, 0, none⟩) 1 1) (fun n => Reads.drewN (reads_lit1 w20 (.int .i64 1) 3)))
                        rw [HKU9.out.2] at CC9
                        clear CWH HW HW2 HF9 hback9 HX HKU hK9 hKp9
                        go_wp2_with fail
                        refine CC9.out.mono ?_
                        rintro en w21 ⟨rfl, H21⟩
                        have H22 := (HB9.out _ H21).q2
                        clear CC9 H21 HB9 hf9
                        go_wp2_with fail
                        go_roundw
                        case rel => exact ⟨k + 1, M9, S2, (L.eraseIdx kk), by omega, by go_num, HKU9, H22⟩
                        case measure => simp [intOf]; omega
          · have hki : ¬ (k : Int) < n := by omega
            have HK0 : Hid (Kept M S (L.take L.length)) := Lib.hid (by rw [List.take_length]; exact HKU.out.1)
            clear HKU HDD
            go_wp2_with fail
            go_loopw [19] (fun i wr => ∃ (j : Nat) (M : RamS) (S : PoolS), j ≤ L.length ∧ i = .int .i64 ((j : Int) - 1) ∧ Hid (Kept M S (L.take j)) ∧ Holds e wr (oH (.slice la L.length lc) L :: poolH pb tb rb S :: ramH rb M :: R)) (fun i _ => ((intOf i) + 1).toNat)
            case atStart => exact ⟨L.length, M, S, by omega, rfl, HK0, HX⟩
            case round =>
              clear HX HK0
              obtain ⟨j, M, S, hj, rfl, HKJ, HX⟩ := hrel
              cases j with
              | zero =>
                obtain ⟨hs0, hc0⟩ := kept_nil HKJ.out
                have hP := HKJ.out.ok
                have hl := hP.len
                have CFR := Lib.hid fun (w' : World) (Y : List HP) (h : Holds e w' (poolH pb tb rb S :: Y)) => framesAny hP h
                rw [hc0] at CFR
                have CSH := Lib.hid fun (w' : World) (Y : List HP) (h : Holds e w' (poolH pb tb rb S :: Y)) => poSheets h (by omega) hP.rows
                rw [hs0] at CSH
                have hj0 : decide ((0 : Int) ≤ ((0 : Nat) : Int) - 1) = false := decide_eq_false (by omega)
                clear hP hs0 HKJ
                go_wp2_with fail
                refine (CFR.out _ _ HX.swap).mono ?_
                rintro en w7 ⟨rfl, H8⟩
                obtain ⟨f, X, hf, HF, hback⟩ := ram_fr H8.p2
                have HB := Lib.hid hback
                have CC := Lib.hid (ramCount ((HF.alloc (.cells #[.int .i64 3] 3)).drop) 3 (.slice (some ⟨w7.heap.size, 0, none⟩) 1 1) (fun n => Reads.drewN (reads_lit1 w7 (.int .i64 3) 3)))
                rw [hc0] at CC
                clear HX HF hback H8 CFR hc0
                go_wp2_with fail
                refine CC.out.mono ?_
                rintro en w8 ⟨rfl, H9⟩
                have H10 := (HB.out _ H9).swap
                clear CC H9 HB hf
                go_wp2_with fail
                refine (CSH.out _ _ H10).mono ?_
                rintro en w9 ⟨vs, rfl, H11⟩
                obtain ⟨sa, sc, Q, rfl, _, _⟩ := sh_open H11
                have H12 := H11.drop.drop.drop.drop
                clear H10 CSH H11
                rw [List.length_nil]
                go_wp2_with fail
                refine (lives20 H12).mono ?_
                rintro en w10 ⟨rfl, H13⟩
                clear H12
                go_wp2_with fail
                go_ret
                exact ⟨rfl, H13⟩
              | succ j =>
                have hjl : j < L.length := by omega
                obtain ⟨q, hq⟩ : ∃ q, L[j]? = some q := ⟨_, List.getElem?_eq_getElem hjl⟩
                obtain ⟨⟨M2, S2⟩, hfr1, hK2⟩ := kept_last HKJ.out hq
                obtain ⟨g2, o2, c2, vb2, hv2, y0, _, _⟩ := o_at hq HX
                cases hv2
                have hP := HKJ.out.ok
                have CF : Hid (∀ w' Y, Holds e w' (poolH pb tb rb S :: ramH rb M :: Y) → Calls Tryz.prog 13 #[.pointer (some ⟨pb, 0, none⟩), .int .i64 q.1] w' (Ret e (.bool true) (poolH pb tb rb S2 :: ramH rb M2 :: Y))) := Lib.hid fun w' Y h => by
                  have h1 := poFree h hP q.1
                  rw [hfr1] at h1
                  exact h1
                have HK2 := Lib.hid hK2
                have e1 : (((j + 1 : Nat) : Int) - 1) = (j : Int) := by omega
                have hj0 : decide ((0 : Int) ≤ (j : Int)) = true := decide_eq_true (by omega)
                have hji : (j : Int) < (L.length : Int) := by omega
                rw [e1]
                clear hP hfr1 hK2 HKJ hq e1
                go_wp2_with fail
                refine (CF.out _ _ HX.q2).mono ?_
                rintro en w7 ⟨rfl, H8⟩
                have H9 := H8.p2
                clear CF HX H8 y0
                go_wp2_with fail
                go_roundw
                case rel => exact ⟨j, M2, S2, by omega, by first | rfl | go_num, HK2, H9⟩
                case measure => simp [intOf]
end
end Go.Proofs.YtheblkofemobdaaGreat

/-
  gunnylaw20: PoolKeeps, for arguments.
-/
namespace Go.Proofs.YtheblkofemobdaaGreat
open Go.RowKit
theorem u8_arg {P : Program} {W : World} {t : TypeId} {v : Value} (h : Arg P W t v) (ht : P.underlying t = some (.int .u8)) : ∃ z, v = .int .u8 z ∧ 0 ≤ z ∧ z ≤ 255 := by
  obtain ⟨z, hz, hw⟩ := h.int ht
  refine ⟨z, hz, ?_⟩
  unfold Lit.wf at hw
  have h2 : IntKind.u8.min ≤ z ∧ z ≤ IntKind.u8.max := by simpa using hw
  have h3 : IntKind.u8.min = 0 := by decide
  have h4 : IntKind.u8.max = 255 := by decide
  rw [h3, h4] at h2
  exact h2
theorem poolKeeps_arg (W : World) (v0 v1 v2 : Value) (a0 : Arg Tryz.prog W 5 v0) (a1 : Arg Tryz.prog W 5 v1) (a2 : Arg Tryz.prog W 22 v2) :
    Calls Tryz.prog 5 #[v0, v1, v2] W fun e w' => e = .returned (.bool true) ∧ Below W.heap.size W w' := by
  obtain ⟨x, rfl, hx⟩ := u8_arg a0 Tryz.underlying5
  obtain ⟨y, rfl, hy⟩ := u8_arg a1 Tryz.underlying5
  obtain ⟨n, xs, hn, hr, hD⟩ := deeds20 a2
  exact (poolKeeps_walk (Holds.start W) v2 n xs hn (fun w' h => hr.based h) hD x y hx hy).mono fun en w' ⟨r1, r2⟩ => ⟨r1, r2.below rfl rfl rfl⟩
end Go.Proofs.YtheblkofemobdaaGreat
