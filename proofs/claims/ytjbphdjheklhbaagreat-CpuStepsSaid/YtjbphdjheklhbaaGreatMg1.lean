import Derived.Test.YtjbphdjheklhbaaGreatMg0
import Derived.Deep.QuietTactic
import Derived.Deep.RegionHeld3
import Derived.Laws.CopyRow
import Derived.Lib.SliceRun
/-
  Package model: Protect.
-/
namespace Go.Proofs.YtjbphdjheklhbaaGreat
open Go.RowKit

def proE (M : List Pg) (a : Nat) (perm : Int) : Nat := if atE a ≠ 0 then atE a else if mayP perm = false then 1 else if (fnd M (pgOf a)).isSome then 0 else 9
def setPerm (M : List Pg) (q p : Nat) : List Pg := M.map fun y => if y.pg = q then { y with perm := p } else y
/-- The pages behind Protect. -/
def proP (M : List Pg) (a : Nat) (perm : Int) : List Pg := if proE M a perm = 0 then setPerm M (pgOf a) perm.toNat else M
theorem proP_no {M : List Pg} {a : Nat} {perm : Int} (h : proE M a perm ≠ 0) : proP M a perm = M := if_neg h
theorem proP_yes {M : List Pg} {a : Nat} {perm : Int} (h : proE M a perm = 0) : proP M a perm = setPerm M (pgOf a) perm.toNat := if_pos h
theorem fnd_perm (M : List Pg) (q p k : Nat) : fnd (setPerm M q p) k = (fnd M k).map fun y => if y.pg = q then { y with perm := p } else y := by
  unfold fnd setPerm
  rw [List.find?_map]
  congr 1
  congr 1
  funext x
  simp only [Function.comp]
  split <;> rfl
theorem look_perm (M : List Pg) (q p : Nat) : look (setPerm M q p) = look M := by
  funext k
  unfold look
  rw [fnd_perm]
  split
  · rw [Option.map_map]
    congr 1
    funext x
    simp only [Function.comp]
    split <;> rfl
  · rfl
theorem ModOk.pro {M : List Pg} (h : ModOk M) (a : Nat) (perm : Int) : ModOk (proP M a perm) := by
  by_cases hE : proE M a perm = 0
  · have hmp : mayP perm = true := by
      unfold proE at hE
      split at hE
      · next h => exact absurd hE h
      · cases hm : mayP perm with
        | true => rfl
        | false => rw [hm] at hE; simp at hE
    have hb := mayP_bd hmp
    rw [proP_yes hE]
    unfold setPerm
    refine ⟨?_, ?_, ?_, ?_⟩
    · rw [List.pairwise_map]
      refine h.rise.imp ?_
      intro x y hxy
      repeat (first | exact hxy | split)
    all_goals
      intro x hx
      obtain ⟨y, hy, rfl⟩ := List.mem_map.1 hx
    · split
      · exact h.lt y hy
      · exact h.lt y hy
    · split
      · show perm.toNat ≤ 7; omega
      · exact h.perm y hy
    · split
      · exact h.len y hy
      · exact h.len y hy
  · rw [proP_no hE]; exact h

section
variable {e : Env} {w : World} {R : List HP} {m : Nat} {M : List Pg}
set_option maxRecDepth 100000 in
set_option maxHeartbeats 4000000 in
theorem modProtected {kind perm n : Int} {a : Nat} (ha : a < 18446744073709551616) {d : Value} (hd : ∃ ad l c, d = .slice ad l c) (H : Holds e w (modH m M :: R)) :
    Calls Tryz.prog 55 #[.pointer (some ⟨m, 0, none⟩), opVal kind perm n a d] w
      (Ret e (.int .i64 (proE M a perm)) (modH m (proP M a perm) :: R)) := by
  obtain ⟨ad, c, l, rfl⟩ := hd
  obtain ⟨mb, hO, HY⟩ := mod_open H
  have HY1 := HY.alloc (opObj kind perm n a (.slice ad c l))
  generalize hbx : w.heap.size = bx at HY1
  obtain ⟨q, hq⟩ : ∃ q, pgOf a = q := ⟨_, rfl⟩
  have hql : q < 68719476736 := hq ▸ pgOf_lt a
  have CP : Hid (∀ w', Calls Tryz.prog 70 #[.int .u64 a] w' (Quiet w' (.int .i64 q))) := Lib.hid fun w' => hq ▸ vaPage (w := w') a ha
  have CA : Hid (∀ w' X, Holds e w' X → Calls Tryz.prog 72 #[.int .u64 a] w' (Ret e (.int .i64 (atE a)) X)) := Lib.hid fun w' X h => retQ (modAt a ha) h
  have CM : Hid (∀ w' X, Holds e w' X → Calls Tryz.prog 73 #[.int .i64 perm] w' (Ret e (.bool (mayP perm)) X)) := Lib.hid fun w' X h => retQ (pteMay perm) h
  have HL : Hid (∀ w', Holds e w' (pts bx (opObj kind perm n a (.slice ad c l)) :: pts m (modObj mb) :: mapZ mb 68719476736 (look M) :: all pageH M :: R) → (Instr.lookup 78 (.map (some mb)) (.int .i64 q) true).run Tryz.prog w' = .ok (.tuple #[ptrO (fnd M q), .bool (fnd M q).isSome]) w') := Lib.hid fun w' h => modLook h.drop q
  have HE : Hid (firstE [(atE a : Int), if mayP perm then 0 else 1, if (fnd M q).isSome then 0 else 9] = (proE M a perm : Int)) := Lib.hid (by
    unfold proE
    rw [hq]
    by_cases h1 : atE a = 0
    · rw [if_neg (show ¬ (atE a ≠ 0) from fun h => h h1)]
      cases mayP perm <;> cases (fnd M q).isSome <;> simp [firstE, h1]
    · rw [if_pos h1]
      simp [firstE, h1])
  obtain ⟨pv, hpv⟩ : ∃ pv, ptrO (fnd M q) = pv := ⟨_, rfl⟩
  obtain ⟨ps, hps⟩ : ∃ ps, (fnd M q).isSome = ps := ⟨_, rfl⟩
  rw [hpv, hps] at HL
  rw [hps] at HE
  have CW1 : Hid (∀ w' X, Holds e w' X → Calls Tryz.prog 58 #[.bool (mayP perm), .int .i64 1] w' (Ret e (.int .i64 (if mayP perm then 0 else 1)) X)) := Lib.hid fun w' X h => retQ (modWants _ _) h
  have CW2 : Hid (∀ w' X, Holds e w' X → Calls Tryz.prog 58 #[.bool ps, .int .i64 9] w' (Ret e (.int .i64 (if ps then 0 else 9)) X)) := Lib.hid fun w' X h => retQ (modWants _ _) h
  have CF : Hid (∀ w' blk e1 e2 e3 X, Holds e w' (pts blk (errLit e1 e2 e3) :: X) → Calls Tryz.prog 71 #[.slice (some ⟨blk, 0, none⟩) 3 3] w' (Ret e (.int .i64 (firstE [e1, e2, e3])) X)) := Lib.hid fun w' blk e1 e2 e3 X h => first3 h
  obtain ⟨e1, he1⟩ : ∃ e1 : Int, (if mayP perm then 0 else 1) = e1 := ⟨_, rfl⟩
  obtain ⟨e2, he2⟩ : ∃ e2 : Int, (if ps then 0 else 9) = e2 := ⟨_, rfl⟩
  rw [he1] at CW1 HE
  rw [he2] at CW2 HE
  have HEQ : Hid ((if mayP perm then (0 : Int) else 1) = e1 ∧ (if ps then (0 : Int) else 9) = e2 ∧ (fnd M q).isSome = ps ∧ pgOf a = q) := Lib.hid ⟨he1, he2, hps, hq⟩
  generalize hmp : mayP perm = mp at CM CW1
  clear he1 he2 hps hq
  unfold opVal
  clear H HY
  go_enter Tryz.func55, Tryz.ntmps55
  go_wp2_with fail
  obtain ⟨I, Wf, hI, hW, hWs⟩ := worlds_of HY1
  have r0 : ∀ i, (Wf i).cell? ⟨m, 0, none⟩ = some (.map (some mb)) := fun i => (hW i).swap.cells 0
  have r1 := fun i => HL.out _ (hW i)
  have r2 : ∀ i, (Wf i).cell? ⟨bx, 3, none⟩ = some (.int .u64 a) := fun i => (hW i).cells 3
  refine wp_region_holds hWs HY1 (by kernel_rfl) (by kernel_rfl) ?_
  (repeat (go_big_quiet_step ((go_at_call 70; exact quietQ (CP.out _) (hW _) hWs)))); refine wpQuiet_nil ?_; intro _ hw'; obtain ⟨nq, hw''⟩ := hw'; subst hw''
  have H2 := hW nq
  generalize Wf nq = w2 at H2
  clear r0 r1 r2 hW hWs HY1 HL CP
  have HK : Hid (∀ w' X, Holds e w' (pts bx (opObj kind perm n a (.slice ad c l)) :: X) → w'.cell? ⟨bx, 3, none⟩ = some (.int .u64 a) ∧ w'.cell? ⟨bx, 1, none⟩ = some (.int .i64 perm)) := Lib.hid fun w' X h => ⟨h.cells 3, h.cells 1⟩
  have hd2 := H2.drew
  go_wp2_with fail
  go_region_held3 (fun w' => w'.cell? ⟨bx, 3, none⟩ = some (.int .u64 a) ∧ w'.cell? ⟨bx, 1, none⟩ = some (.int .i64 perm))
    (first | exact HK.out _ _ (by assumption) | exact HK.out _ _ (Holds.drop (Holds.alloc (by assumption) _)))
    (first
      | (go_at_call 72; refine (CA.out _ _ (by assumption)).mono ?_; rintro e w4 ⟨rfl, HN⟩)
      | (go_at_call 73; refine (CM.out _ _ (by assumption)).mono ?_; rintro e w4 ⟨rfl, HN⟩)
      | (go_at_call 58; refine (CW1.out _ _ (by assumption)).mono ?_; rintro e w4 ⟨rfl, HN⟩)
      | (go_at_call 58; refine (CW2.out _ _ (by assumption)).mono ?_; rintro e w4 ⟨rfl, HN⟩)
      | (go_at_call 71; refine (CF.out _ _ _ _ _ _ (Holds.alloc (by assumption) _)).mono ?_; rintro e w4 ⟨rfl, HN⟩))
  clear hd2 H2 CA CM CW1 CW2 CF HK
  simp only [HE.out]
  obtain ⟨E, hEq⟩ : ∃ E, proE M a perm = E := ⟨_, rfl⟩
  rw [hEq]
  by_cases hE : E = 0
  · subst hE
    have HE0 := Lib.hid hEq
    have hq : pgOf a = q := HEQ.out.2.2.2
    have hmp1 : mayP perm = true := by
      unfold proE at hEq
      split at hEq
      · next h => exact absurd hEq h
      · cases hm : mayP perm with
        | true => rfl
        | false => rw [hm] at hEq; simp at hEq
    have hfs : ∃ x, fnd M q = some x := by
      unfold proE at hEq
      rw [hq] at hEq
      cases hf : fnd M q with
      | some x => exact ⟨x, rfl⟩
      | none =>
        rw [hf] at hEq
        split at hEq
        · next h => exact absurd hEq h
        · split at hEq <;> simp at hEq
    obtain ⟨x, hfx⟩ := hfs
    obtain ⟨ix, hix, hxq⟩ := fnd_at hfx
    have hpvx : pv = .pointer (some ⟨x.pb, 0, none⟩) := by rw [← hpv, hfx]; rfl
    subst hpvx
    have hpb := mayP_bd hmp1
    have hset : proP M a perm = M.set ix { x with perm := perm.toNat } := by
      rw [proP_yes hEq, hq, ← hxq]
      exact map_one hO hix (fun y => { y with perm := perm.toNat })
    have hlk : look (M.set ix { x with perm := perm.toNat }) = look M := by rw [← hset, proP_yes hEq, hq]; exact look_perm _ _ _
    have hok : ModOk (M.set ix { x with perm := perm.toNat }) := by rw [← hset]; exact hO.pro a perm
    have HS := Lib.hid hset
    have h6 : Holds e w4 (pts x.pb (pgObj x) :: pts x.gb (bsObj x) :: modX m mb M ix (pts bx (opObj kind perm n a (.slice ad c l)) :: R)) := mod_at hix (HN.re 4 [1, 2, 3, 0])
    have c6 := h6.cells
    have f6 := h6.frozen
    have b3 := HN.cells 1
    have h7 := h6.set 0 (.int .i64 perm)
    have h8 : Holds e (w4.setCell ⟨x.pb, 0, none⟩ (.int .i64 perm)) (pts x.pb (pgObj { x with perm := perm.toNat }) :: pts x.gb (bsObj { x with perm := perm.toNat }) :: modX m mb M ix (pts bx (opObj kind perm n a (.slice ad c l)) :: R)) := by
      have e1 : pgObj { x with perm := perm.toNat } = .cells #[.int .i64 perm, .slice (some ⟨x.gb, 0, none⟩) 4096 4096] 108 := by
        unfold pgObj
        rw [show ((perm.toNat : Nat) : Int) = perm by omega]
      rw [e1]
      exact h7
    have h9 := mod_turn hix hlk h8
    have HH := Lib.hid (mod_close hok (h9.d3))
    clear HN h6 h7 h8 h9 hok hlk hset hmp HE HEQ hEq hpv
    go_wp2_with fail
    go_ret
    exact ⟨by rw [HE0.out]; rfl, by rw [HS.out]; exact HH.out⟩
  · have HE0 := Lib.hid hEq
    have hEb : ((E : Int) == 0) = false := by simp; omega
    have HH := Lib.hid (mod_close hO HN.drop)
    have HNE := Lib.hid hE
    clear HN hE hEq HE HEQ
    go_wp2_with fail
    go_ret
    exact ⟨by rw [HE0.out]; rfl, by rw [proP_no (by rw [HE0.out]; exact HNE.out)]; exact HH.out⟩
end
end Go.Proofs.YtjbphdjheklhbaaGreat

/-
  Package model: does, by the kind of the op.
-/
namespace Go.Proofs.YtjbphdjheklhbaaGreat
open Go.RowKit

/-- An op. -/
structure OpS where
  kind : Nat
  perm : Int
  n : Int
  a : Nat
  d : Value
  ds : List UInt8
def OpS.val (o : OpS) : Value := opVal o.kind o.perm o.n o.a o.d
def OpS.cells (o : OpS) : List Value := [.int .i64 o.kind, .int .i64 o.perm, .int .i64 o.n, .int .u64 o.a, o.d]
/-- What an op of one of the kinds Map, Protect, Store does. -/
def opE (M : List Pg) (o : OpS) : Nat := if o.kind = 0 then mapE M o.a o.perm else if o.kind = 2 then proE M o.a o.perm else chk M o.a o.ds.length 2
def stoP (M : List Pg) (a : Nat) (ds : List UInt8) : List Pg := if chk M a ds.length 2 = 0 then wrb M a ds else M
def opP (M : List Pg) (o : OpS) (p : Nat × Nat) : List Pg := if o.kind = 0 then mapP M o.a o.perm p else if o.kind = 2 then proP M o.a o.perm else stoP M o.a o.ds
/-- An op that may be told, whose bytes are read wherever R holds. -/
structure OpOk (e : Env) (R : List HP) (o : OpS) : Prop where
  a : o.a < 18446744073709551616
  rd : ∀ w', Holds e w' R → RdB w' o.d o.ds
  len : o.ds.length ≤ 4611686018427387904

section
variable {e : Env} {w : World} {R : List HP} {m : Nat} {M : List Pg}
def ansZ : Obj := .cells #[.int .i64 0, .int .i64 0, .slice none 0 0] 50
set_option maxRecDepth 100000 in
set_option maxHeartbeats 1000000 in
theorem doesMap (o : OpS) (hk : o.kind = 0) (hO : OpOk e R o) (H : Holds e w (modH m M :: R)) :
    Calls Tryz.prog 27 #[.pointer (some ⟨m, 0, none⟩), o.val] w
      (RetEx e (fun _ : Nat × Nat => ansVal (mapE M o.a o.perm) (.slice none 0 0)) (fun p => modH m (mapP M o.a o.perm p) :: R)) := by
  obtain ⟨ad, c, l, hdv⟩ : ∃ ad c l, o.d = .slice ad c l := let ⟨ad, c, h⟩ := (hO.rd w H.drop).shape; ⟨ad, _, c, h⟩
  obtain ⟨kind, perm, n, a, d, ds⟩ := o
  simp only at hdv hk
  subst hdv hk
  have ha := hO.a
  have hrd := hO.rd
  have hlen := hO.len
  simp only at ha hrd hlen
  have H1 := (H.alloc (opObj 0 perm n a (.slice ad c l))).alloc ansZ
  rw [World.size_alloc] at H1
  have hc1 := H1.swap.cells
  generalize hbx : w.heap.size = bx at H1 hc1
  have CM : Hid (∀ w', Holds e w' (pts (bx + 1) ansZ :: pts bx (opObj 0 perm n a (.slice ad c l)) :: modH m M :: R) → Calls Tryz.prog 53 #[.pointer (some ⟨m, 0, none⟩), opVal 0 perm n a (.slice ad c l)] w' (RetEx e (fun _ : Nat × Nat => .int .i64 (mapE M a perm)) (fun p => pts (bx + 1) ansZ :: pts bx (opObj 0 perm n a (.slice ad c l)) :: modH m (mapP M a perm p) :: R))) := Lib.hid fun w' h =>
    (modMapped ha ⟨_, _, _, rfl⟩ (h.re 3 [2, 0, 1])).mono fun en w'' ⟨p, h1, h2⟩ => ⟨p, h1, h2.re 3 [1, 2, 0]⟩
  clear H
  unfold OpS.val opVal
  unfold opVal at CM
  dsimp only
  generalize mapE M a perm = E at *
  unfold opObj ansZ at H1
  go_enter Tryz.func27, Tryz.ntmps27
  go_wp2_with fail
  refine (CM.out _ H1).mono ?_
  rintro en w1 ⟨p, rfl, H2⟩
  unfold ansZ at H2
  have c5 := H2.cells
  have f5 := H2.frozen
  have H6 := ((H2.set 0 (.int .i64 (E : Int))).set 1 (.int .i64 0)).set 2 (.slice none 0 0)
  have HH := Lib.hid H6
  clear H6 H2 CM hc1
  try clear H1
  go_wp2_with fail
  refine bodyPost_at HH.out fun w9 H9 => ?_
  have hc9 := H9.cells
  exact bodyPost_ret (v := ansVal (E : Int) (.slice none 0 0)) (by simp [results, Tryz.results27, go_sem, ansVal, hc9]) rfl ⟨p, rfl, H9.drop.drop⟩
set_option maxRecDepth 100000 in
set_option maxHeartbeats 1000000 in
theorem doesPro (o : OpS) (hk : o.kind = 2) (hO : OpOk e R o) (H : Holds e w (modH m M :: R)) :
    Calls Tryz.prog 27 #[.pointer (some ⟨m, 0, none⟩), o.val] w
      (RetEx e (fun _ : Nat × Nat => ansVal (proE M o.a o.perm) (.slice none 0 0)) (fun _ => modH m (proP M o.a o.perm) :: R)) := by
  obtain ⟨ad, c, l, hdv⟩ : ∃ ad c l, o.d = .slice ad c l := let ⟨ad, c, h⟩ := (hO.rd w H.drop).shape; ⟨ad, _, c, h⟩
  obtain ⟨kind, perm, n, a, d, ds⟩ := o
  simp only at hdv hk
  subst hdv hk
  have ha := hO.a
  have hrd := hO.rd
  have hlen := hO.len
  simp only at ha hrd hlen
  have H1 := (H.alloc (opObj 2 perm n a (.slice ad c l))).alloc ansZ
  rw [World.size_alloc] at H1
  have hc1 := H1.swap.cells
  generalize hbx : w.heap.size = bx at H1 hc1
  have CM : Hid (∀ w', Holds e w' (pts (bx + 1) ansZ :: pts bx (opObj 2 perm n a (.slice ad c l)) :: modH m M :: R) → Calls Tryz.prog 55 #[.pointer (some ⟨m, 0, none⟩), opVal 2 perm n a (.slice ad c l)] w' (RetEx e (fun _ : Nat × Nat => .int .i64 (proE M a perm)) (fun _ => pts (bx + 1) ansZ :: pts bx (opObj 2 perm n a (.slice ad c l)) :: modH m (proP M a perm) :: R))) := Lib.hid fun w' h =>
    (modProtected ha ⟨_, _, _, rfl⟩ (h.re 3 [2, 0, 1])).mono fun en w'' ⟨h1, h2⟩ => ⟨(0, 0), h1, h2.re 3 [1, 2, 0]⟩
  clear H
  unfold OpS.val opVal
  unfold opVal at CM
  dsimp only
  generalize proE M a perm = E at *
  unfold opObj ansZ at H1
  go_enter Tryz.func27, Tryz.ntmps27
  go_wp2_with fail
  refine (CM.out _ H1).mono ?_
  rintro en w1 ⟨p, rfl, H2⟩
  unfold ansZ at H2
  have c5 := H2.cells
  have f5 := H2.frozen
  have H6 := ((H2.set 0 (.int .i64 (E : Int))).set 1 (.int .i64 0)).set 2 (.slice none 0 0)
  have HH := Lib.hid H6
  clear H6 H2 CM hc1
  try clear H1
  go_wp2_with fail
  refine bodyPost_at HH.out fun w9 H9 => ?_
  have hc9 := H9.cells
  exact bodyPost_ret (v := ansVal (E : Int) (.slice none 0 0)) (by simp [results, Tryz.results27, go_sem, ansVal, hc9]) rfl ⟨p, rfl, H9.drop.drop⟩
set_option maxRecDepth 100000 in
set_option maxHeartbeats 1000000 in
theorem doesSto (o : OpS) (hk : o.kind = 4) (hO : OpOk e R o) (H : Holds e w (modH m M :: R)) :
    Calls Tryz.prog 27 #[.pointer (some ⟨m, 0, none⟩), o.val] w
      (RetEx e (fun _ : Nat × Nat => ansVal (chk M o.a o.ds.length 2) (.slice none 0 0)) (fun _ => modH m (stoP M o.a o.ds) :: R)) := by
  obtain ⟨ad, c, l, hdv⟩ : ∃ ad c l, o.d = .slice ad c l := let ⟨ad, c, h⟩ := (hO.rd w H.drop).shape; ⟨ad, _, c, h⟩
  obtain ⟨kind, perm, n, a, d, ds⟩ := o
  simp only at hdv hk
  subst hdv hk
  have ha := hO.a
  have hrd := hO.rd
  have hlen := hO.len
  simp only at ha hrd hlen
  have H1 := (H.alloc (opObj 4 perm n a (.slice ad c l))).alloc ansZ
  rw [World.size_alloc] at H1
  have hc1 := H1.swap.cells
  generalize hbx : w.heap.size = bx at H1 hc1
  have CM : Hid (∀ w', Holds e w' (pts (bx + 1) ansZ :: pts bx (opObj 4 perm n a (.slice ad c l)) :: modH m M :: R) → Calls Tryz.prog 57 #[.pointer (some ⟨m, 0, none⟩), opVal 4 perm n a (.slice ad c l)] w' (RetEx e (fun _ : Nat × Nat => .int .i64 (chk M a ds.length 2)) (fun _ => pts (bx + 1) ansZ :: pts bx (opObj 4 perm n a (.slice ad c l)) :: modH m (stoP M a ds) :: R))) := Lib.hid fun w' h =>
    (modStored ha (fun w'' g => hrd w'' g.drop.drop) hlen (h.re 3 [2, 0, 1])).mono fun en w'' ⟨h1, h2⟩ => ⟨(0, 0), h1, h2.re 3 [1, 2, 0]⟩
  clear H
  unfold OpS.val opVal
  unfold opVal at CM
  dsimp only
  generalize chk M a ds.length 2 = E at *
  unfold opObj ansZ at H1
  go_enter Tryz.func27, Tryz.ntmps27
  go_wp2_with fail
  refine (CM.out _ H1).mono ?_
  rintro en w1 ⟨p, rfl, H2⟩
  unfold ansZ at H2
  have c5 := H2.cells
  have f5 := H2.frozen
  have H6 := ((H2.set 0 (.int .i64 (E : Int))).set 1 (.int .i64 0)).set 2 (.slice none 0 0)
  have HH := Lib.hid H6
  clear H6 H2 CM hc1
  try clear H1
  go_wp2_with fail
  refine bodyPost_at HH.out fun w9 H9 => ?_
  have hc9 := H9.cells
  exact bodyPost_ret (v := ansVal (E : Int) (.slice none 0 0)) (by simp [results, Tryz.results27, go_sem, ansVal, hc9]) rfl ⟨p, rfl, H9.drop.drop⟩
set_option maxRecDepth 100000 in
set_option maxHeartbeats 1000000 in
theorem doesRd3 (o : OpS) (hk : o.kind = 3) (hn0 : -9223372036854775808 ≤ o.n) (hn1 : o.n ≤ 9223372036854775807) (hO : OpOk e R o) (H : Holds e w (modH m M :: R)) :
    Calls Tryz.prog 27 #[.pointer (some ⟨m, 0, none⟩), o.val] w
      (RetEx e (fun v : Value => ansVal (chk M o.a o.n 1) v) (fun v => bts v (rdE M o.a o.n 1) :: modH m M :: R)) := by
  obtain ⟨ad, c, l, hdv⟩ : ∃ ad c l, o.d = .slice ad c l := let ⟨ad, c, h⟩ := (hO.rd w H.drop).shape; ⟨ad, _, c, h⟩
  obtain ⟨kind, perm, n, a, d, ds⟩ := o
  simp only at hdv hk
  subst hdv hk
  have ha := hO.a
  have hrd := hO.rd
  have hlen := hO.len
  simp only at ha hrd hlen
  have H1 := (H.alloc (opObj 3 perm n a (.slice ad c l))).alloc ansZ
  rw [World.size_alloc] at H1
  have hc1 := H1.swap.cells
  generalize hbx : w.heap.size = bx at H1 hc1
  simp only at hn0 hn1
  have CM : Hid (∀ w', Holds e w' (pts (bx + 1) ansZ :: pts bx (opObj 3 perm n a (.slice ad c l)) :: modH m M :: R) → Calls Tryz.prog 56 #[.pointer (some ⟨m, 0, none⟩), opVal 3 perm n a (.slice ad c l), .int .i64 1] w' (RetEx e (fun v : Value => ansVal (chk M a n 1) v) (fun v => pts (bx + 1) ansZ :: pts bx (opObj 3 perm n a (.slice ad c l)) :: bts v (rdE M a n 1) :: modH m M :: R))) := Lib.hid fun w' h =>
    (modRead ha hn0 hn1 1 (by omega) ⟨_, _, _, rfl⟩ (h.re 3 [2, 0, 1])).mono fun en w'' ⟨v, h1, h2⟩ => ⟨v, h1, h2.re 4 [2, 3, 0, 1]⟩
  clear H
  unfold OpS.val opVal
  unfold opVal at CM
  dsimp only
  generalize chk M a n 1 = E at *
  generalize rdE M a n 1 = out at *
  unfold opObj ansZ at H1
  go_enter Tryz.func27, Tryz.ntmps27
  go_wp2_with fail
  refine (CM.out _ H1).mono ?_
  rintro en w1 ⟨v, rfl, H2⟩
  obtain ⟨av, cv, hv⟩ := (bts.reads H2.p2).shape
  obtain ⟨lv, hlv⟩ : ∃ lv, out.length = lv := ⟨_, rfl⟩
  rw [hlv] at hv
  clear hlv
  subst hv
  unfold ansVal
  unfold ansZ at H2
  have c5 := H2.cells
  have f5 := H2.frozen
  have H6 := ((H2.set 0 (.int .i64 (E : Int))).set 1 (.int .i64 0)).set 2 (.slice av lv cv)
  have HH := Lib.hid H6
  clear H6 H2 CM hc1 H1
  go_wp2_with fail
  refine bodyPost_at HH.out fun w9 H9 => ?_
  have hc9 := H9.cells
  exact bodyPost_ret (v := ansVal (E : Int) (.slice av lv cv)) (by simp [results, Tryz.results27, go_sem, ansVal, hc9]) rfl ⟨_, rfl, H9.drop.drop⟩
set_option maxRecDepth 100000 in
set_option maxHeartbeats 1000000 in
theorem doesRd5 (o : OpS) (hk : o.kind = 5) (hn0 : -9223372036854775808 ≤ o.n) (hn1 : o.n ≤ 9223372036854775807) (hO : OpOk e R o) (H : Holds e w (modH m M :: R)) :
    Calls Tryz.prog 27 #[.pointer (some ⟨m, 0, none⟩), o.val] w
      (RetEx e (fun v : Value => ansVal (chk M o.a o.n 4) v) (fun v => bts v (rdE M o.a o.n 4) :: modH m M :: R)) := by
  obtain ⟨ad, c, l, hdv⟩ : ∃ ad c l, o.d = .slice ad c l := let ⟨ad, c, h⟩ := (hO.rd w H.drop).shape; ⟨ad, _, c, h⟩
  obtain ⟨kind, perm, n, a, d, ds⟩ := o
  simp only at hdv hk
  subst hdv hk
  have ha := hO.a
  have hrd := hO.rd
  have hlen := hO.len
  simp only at ha hrd hlen
  have H1 := (H.alloc (opObj 5 perm n a (.slice ad c l))).alloc ansZ
  rw [World.size_alloc] at H1
  have hc1 := H1.swap.cells
  generalize hbx : w.heap.size = bx at H1 hc1
  simp only at hn0 hn1
  have CM : Hid (∀ w', Holds e w' (pts (bx + 1) ansZ :: pts bx (opObj 5 perm n a (.slice ad c l)) :: modH m M :: R) → Calls Tryz.prog 56 #[.pointer (some ⟨m, 0, none⟩), opVal 5 perm n a (.slice ad c l), .int .i64 4] w' (RetEx e (fun v : Value => ansVal (chk M a n 4) v) (fun v => pts (bx + 1) ansZ :: pts bx (opObj 5 perm n a (.slice ad c l)) :: bts v (rdE M a n 4) :: modH m M :: R))) := Lib.hid fun w' h =>
    (modRead ha hn0 hn1 4 (by omega) ⟨_, _, _, rfl⟩ (h.re 3 [2, 0, 1])).mono fun en w'' ⟨v, h1, h2⟩ => ⟨v, h1, h2.re 4 [2, 3, 0, 1]⟩
  clear H
  unfold OpS.val opVal
  unfold opVal at CM
  dsimp only
  generalize chk M a n 4 = E at *
  generalize rdE M a n 4 = out at *
  unfold opObj ansZ at H1
  go_enter Tryz.func27, Tryz.ntmps27
  go_wp2_with fail
  refine (CM.out _ H1).mono ?_
  rintro en w1 ⟨v, rfl, H2⟩
  obtain ⟨av, cv, hv⟩ := (bts.reads H2.p2).shape
  obtain ⟨lv, hlv⟩ : ∃ lv, out.length = lv := ⟨_, rfl⟩
  rw [hlv] at hv
  clear hlv
  subst hv
  unfold ansVal
  unfold ansZ at H2
  have c5 := H2.cells
  have f5 := H2.frozen
  have H6 := ((H2.set 0 (.int .i64 (E : Int))).set 1 (.int .i64 0)).set 2 (.slice av lv cv)
  have HH := Lib.hid H6
  clear H6 H2 CM hc1 H1
  go_wp2_with fail
  refine bodyPost_at HH.out fun w9 H9 => ?_
  have hc9 := H9.cells
  exact bodyPost_ret (v := ansVal (E : Int) (.slice av lv cv)) (by simp [results, Tryz.results27, go_sem, ansVal, hc9]) rfl ⟨_, rfl, H9.drop.drop⟩
end
end Go.Proofs.YtjbphdjheklhbaaGreat

/-
  Package model: New, Does.
-/
namespace Go.Proofs.YtjbphdjheklhbaaGreat
open Go.RowKit

theorem size_set (w : World) (a : Addr) (v : Value) : (w.setCell a v).heap.size = w.heap.size := by simp [World.setCell]
theorem reads_lits (w : World) (xs : List Value) (T : TypeId) (n size : Nat) (hx : xs.length = n * size) : Reads (w.alloc (.cells xs.toArray T)) (.slice (some ⟨w.heap.size, 0, none⟩) n n) size n xs := by
  refine ⟨hx, .inr ⟨_, _, rfl, Nat.le_refl _, fun j u hj => ?_⟩⟩
  rw [Addr.add_at, Nat.zero_add, World.cell?_alloc_new]
  simpa using hj
theorem elem_ans : ElemOf Tryz.prog 45 50 3 40 := ElemOf.mk (z := .agg #[.int .i64 0, .int .i64 0, .slice none 0 0]) (by kernel_rfl) (by kernel_rfl) rfl (by decide)
theorem cells_len (L : List OpS) : (L.flatMap OpS.cells).length = L.length * 5 := by
  induction L with
  | nil => rfl
  | cons o L ih => simp [OpS.cells, ih]; omega
theorem cells_at {L : List OpS} {k : Nat} {o : OpS} (h : L[k]? = some o) (j : Nat) (hj : j < 5) : (L.flatMap OpS.cells)[k * 5 + j]? = o.cells[j]? := by
  induction L generalizing k with
  | nil => simp at h
  | cons x L ih =>
    cases k with
    | zero =>
      simp at h
      subst h
      rw [Nat.zero_mul, Nat.zero_add, List.flatMap_cons, List.getElem?_append_left (by simp [OpS.cells]; omega)]
    | succ k =>
      simp at h
      rw [List.flatMap_cons, List.getElem?_append_right (by simp [OpS.cells]; omega), ← ih h]
      congr 1
      simp [OpS.cells]
      omega

section
variable {e : Env} {w : World} {R : List HP} {m : Nat} {M : List Pg}
theorem modNew (H : Holds e w R) : Calls Tryz.prog 13 #[] w (RetEx e (fun m : Nat => .pointer (some ⟨m, 0, none⟩)) (fun m => modH m [] :: R)) := by
  have hmk : ∀ w : World, (Instr.makeMap 78 none).run Tryz.prog w = .ok (.map (some w.heap.size)) (w.alloc (.map #[] 0)) := fun _ => rfl
  have H1 := (mapZ_made H 68719476736).alloc (modObj w.heap.size)
  rw [World.size_alloc] at H1
  have HH : Hid (Holds e _ (modH (w.heap.size + 1) [] :: R)) := Lib.hid (mod_close (mb := w.heap.size) ⟨List.Pairwise.nil, fun _ h => (by cases h), fun _ h => (by cases h), fun _ h => (by cases h)⟩ ((by
    have e1 : look [] = fun _ => none := by funext k; unfold look fnd; split <;> rfl
    rw [e1]
    exact (Holds.allNil (f := pageH) H1).q2)))
  clear H1
  go_enter Tryz.func13, Tryz.ntmps13
  go_wp2_with fail
  go_ret
  exact ⟨_, rfl, HH.out⟩

set_option maxRecDepth 100000 in
set_option maxHeartbeats 400000 in
/-- Does, by what each op does. -/
theorem modDoesL {τ : Type} (A : τ → HP) (Good : Nat → τ → List Value → Prop) (L : List OpS) (hL : L.length ≤ 1000) (v : Value) (hv : ∀ w', Holds e w' R → Reads w' v 5 L.length (L.flatMap OpS.cells)) (t0 : τ) (h0 : Good 0 t0 [])
    (hsl : ∀ (k : Nat) (o : OpS), L[k]? = some o → ∃ ad l c, o.d = .slice ad l c)
    (hstep : ∀ (k : Nat) (o : OpS), L[k]? = some o → ∀ t ans, Good k t ans → ∀ X : List HP, (∀ w', Holds e w' X → Holds e w' R) → ∀ w', Holds e w' (A t :: X) →
      Calls Tryz.prog 27 #[.pointer (some ⟨m, 0, none⟩), o.val] w' (fun en w'' => ∃ t' E av lv cv, en = .returned (ansVal E (.slice av lv cv)) ∧ Good (k + 1) t' (ans ++ [.int .i64 E, .int .i64 0, .slice av lv cv]) ∧ Holds e w'' (A t' :: X)))
    (H : Holds e w (A t0 :: R)) :
    Calls Tryz.prog 15 #[.pointer (some ⟨m, 0, none⟩), v] w
      (fun en w' => ∃ (v' : Value) (t : τ) (ans : List Value), en = .returned v' ∧ Good L.length t ans ∧ Holds e w' (row v' 50 3 L.length ans :: A t :: R)) := by
  obtain ⟨ad, c, rfl⟩ := (hv w H.drop).shape
  have HV := Lib.hid hv
  have HST := Lib.hid hstep
  have HSL := Lib.hid hsl
  clear hv hstep hsl
  obtain ⟨len, hlen⟩ : ∃ len, L.length = len := ⟨_, rfl⟩
  rw [hlen] at HV hL
  rw [hlen]
  go_enter Tryz.func15, Tryz.ntmps15
  go_wp2_with fail
  go_loopw [5, 11] (fun o i wr => ∃ (k : Nat) (t : τ) (ans : List Value), k ≤ len ∧ i = .int .i64 (k : Nat) ∧ Good k t ans ∧ Holds e wr (row o 50 3 k ans :: A t :: R)) (fun _ i _ => len - (Go.RowKit.intOf i).toNat)
  case atStart => exact ⟨0, t0, [], by omega, rfl, h0, row.nil _ 3 H⟩
  case round =>
    obtain ⟨k, t, ans, hk, rfl, hg, HX⟩ := hrel
    by_cases hlt : k < len
    · obtain ⟨o, ho⟩ : ∃ o, L[k]? = some o := ⟨_, List.getElem?_eq_getElem (by omega)⟩
      obtain ⟨oad, ol, oc, hod⟩ := HSL.out k o ho
      obtain ⟨g, of', rfl, h1⟩ := (HV.out _ HX.drop.drop).at (by omega)
      have c0 : wr.cell? ⟨g, of' + k * 5, none⟩ = some (.int .i64 o.kind) := h1 _ _ (cells_at ho 0 (by omega))
      have c1 : wr.cell? ⟨g, of' + k * 5 + 1, none⟩ = some (.int .i64 o.perm) := by rw [Nat.add_assoc]; exact h1 _ _ (cells_at ho 1 (by omega))
      have c2 : wr.cell? ⟨g, of' + k * 5 + 2, none⟩ = some (.int .i64 o.n) := by rw [Nat.add_assoc]; exact h1 _ _ (cells_at ho 2 (by omega))
      have c3 : wr.cell? ⟨g, of' + k * 5 + 3, none⟩ = some (.int .u64 o.a) := by rw [Nat.add_assoc]; exact h1 _ _ (cells_at ho 3 (by omega))
      have c4 : wr.cell? ⟨g, of' + k * 5 + 4, none⟩ = some (.slice oad ol oc) := by rw [Nat.add_assoc]; exact h1 _ _ (by rw [cells_at ho 4 (by omega)]; unfold OpS.cells; rw [hod]; rfl)
      have HST1 := Lib.hid (HST.out k o ho t ans hg)
      have e1 : o.val = .agg #[.int .i64 o.kind, .int .i64 o.perm, .int .i64 o.n, .int .u64 o.a, .slice oad ol oc] := by unfold OpS.val opVal; rw [hod]
      rw [e1] at HST1
      clear h1 e1 hod ho
      obtain ⟨kind, perm, n, a, d, ds⟩ := o
      dsimp only at *
      go_wp2_with fail
      have H3 := (HX.alloc (.cells #[.int .i64 kind, .int .i64 perm, .int .i64 n, .int .u64 a, .slice oad ol oc] 48)).alloc (.cells #[.int .i64 1, .int .i64 0, .slice none 0 0] 50)
      rw [World.size_alloc] at H3
      refine (HST1.out (pts (wr.heap.size + 1) (.cells #[.int .i64 1, .int .i64 0, .slice none 0 0] 50) :: row u5 50 3 k ans :: R) (fun w' h => h.drop.drop) _ (H3.re 4 [3, 0, 2])).mono ?_
      rintro en w1 ⟨t', E, av, lv, cv, rfl, hg', H4⟩
      have H5 := H4.swap
      have c5 := H5.cells
      have f5 := H5.frozen
      have H6 := ((H5.set 0 (.int .i64 E)).set 1 (.int .i64 0)).set 2 (.slice av lv cv)
      have HG := Lib.hid hg'
      clear HST1 H3 H4 H5 hg' HX c0 c1 c2 c3 c4
      generalize wr.heap.size = sz at *
      unfold ansVal
      have H7 : Holds e _ (row u5 50 3 k ans :: A t' :: R) := ((H6.alloc (.cells #[.int .i64 E, .int .i64 0, .slice av lv cv] 50)).re 4 [3, 2])
      have HRL : Reads ((((w1.setCell ⟨sz + 1, 0, none⟩ (.int .i64 E)).setCell ⟨sz + 1, 1, none⟩ (.int .i64 0)).setCell ⟨sz + 1, 2, none⟩ (.slice av lv cv)).alloc (.cells #[.int .i64 E, .int .i64 0, .slice av lv cv] 50)) (.slice (some ⟨w1.heap.size, 0, none⟩) 1 1) 3 1 [.int .i64 E, .int .i64 0, .slice av lv cv] := by
        have h := reads_lits (((w1.setCell ⟨sz + 1, 0, none⟩ (.int .i64 E)).setCell ⟨sz + 1, 1, none⟩ (.int .i64 0)).setCell ⟨sz + 1, 2, none⟩ (.slice av lv cv)) [.int .i64 E, .int .i64 0, .slice av lv cv] 50 1 3 rfl
        rw [size_set, size_set, size_set] at h
        exact h
      go_wp2_with (at_builtin; refine wpList_append_sl rfl _ _ _ rfl 50 3 40 elem_ans u5 k ans rfl H7 (.slice (some ⟨w1.heap.size, 0, none⟩) 1 1) 1 [.int .i64 E, .int .i64 0, .slice av lv cv] rfl HRL (by simp [Value.oneCell']) ?_ ?_ ?_)
      · unfold maxLen; omega
      · omega
      intro v' w2 H8
      clear H7 H6
      go_wp2_with fail
      go_roundw
      case rel => exact ⟨k + 1, t', _, by omega, by go_num, HG.out, H8⟩
      case measure => simp [Go.RowKit.intOf]; omega
    · obtain rfl : k = len := by omega
      go_wp2_with fail
      go_ret
      exact ⟨_, t, ans, rfl, hg, HX⟩
end
end Go.Proofs.YtjbphdjheklhbaaGreat

/-
  Package model: Does of ops that write; of one op that reads.
-/
namespace Go.Proofs.YtjbphdjheklhbaaGreat
open Go.RowKit

/-- The pages behind ops, one by one; the blocks of new pages. -/
def runP (M : List Pg) : List OpS → List (Nat × Nat) → List Pg
  | o :: L, p :: ps => runP (opP M o p) L ps
  | _, _ => M
def ansC (E : Int) : List Value := [.int .i64 E, .int .i64 0, .slice none 0 0]
/-- The answers. -/
def runA (M : List Pg) : List OpS → List (Nat × Nat) → List Value
  | o :: L, p :: ps => ansC (opE M o) ++ runA (opP M o p) L ps
  | _, _ => []
theorem run_snoc (M : List Pg) (L : List OpS) (ps : List (Nat × Nat)) (h : L.length = ps.length) (o : OpS) (p : Nat × Nat) :
    runP M (L ++ [o]) (ps ++ [p]) = opP (runP M L ps) o p ∧ runA M (L ++ [o]) (ps ++ [p]) = runA M L ps ++ ansC (opE (runP M L ps) o) := by
  induction L generalizing M ps with
  | nil =>
    cases ps with
    | nil => exact ⟨rfl, by simp [runA, runP]⟩
    | cons p ps => simp at h
  | cons x L ih =>
    cases ps with
    | nil => simp at h
    | cons q ps =>
      obtain ⟨h1, h2⟩ := ih (opP M x q) ps (by simpa using h)
      exact ⟨h1, by simp only [List.cons_append, runA, runP]; rw [h2, List.append_assoc]⟩
/-- A write. -/
def OpS.wr (o : OpS) : Prop := o.kind = 0 ∨ o.kind = 2 ∨ o.kind = 4

section
variable {e : Env} {w : World} {R : List HP} {m : Nat} {M : List Pg}
theorem doesW (o : OpS) (hk : o.wr) (hO : OpOk e R o) (H : Holds e w (modH m M :: R)) :
    Calls Tryz.prog 27 #[.pointer (some ⟨m, 0, none⟩), o.val] w
      (RetEx e (fun _ : Nat × Nat => ansVal (opE M o) (.slice none 0 0)) (fun p => modH m (opP M o p) :: R)) := by
  rcases hk with hk | hk | hk
  · have e1 : opE M o = mapE M o.a o.perm := by unfold opE; rw [if_pos hk]
    have e2 : ∀ p, opP M o p = mapP M o.a o.perm p := fun p => by unfold opP; rw [if_pos hk]
    rw [e1, show (fun p => modH m (opP M o p) :: R) = fun p => modH m (mapP M o.a o.perm p) :: R by funext p; rw [e2]]
    exact doesMap o hk hO H
  · have e1 : opE M o = proE M o.a o.perm := by unfold opE; rw [if_neg (by omega), if_pos hk]
    have e2 : ∀ p, opP M o p = proP M o.a o.perm := fun p => by unfold opP; rw [if_neg (by omega), if_pos hk]
    rw [e1, show (fun p => modH m (opP M o p) :: R) = fun _ => modH m (proP M o.a o.perm) :: R by funext p; rw [e2]]
    exact doesPro o hk hO H
  · have e1 : opE M o = chk M o.a o.ds.length 2 := by unfold opE; rw [if_neg (by omega), if_neg (by omega)]
    have e2 : ∀ p, opP M o p = stoP M o.a o.ds := fun p => by unfold opP; rw [if_neg (by omega), if_neg (by omega)]
    rw [e1, show (fun p => modH m (opP M o p) :: R) = fun _ => modH m (stoP M o.a o.ds) :: R by funext p; rw [e2]]
    exact doesSto o hk hO H

theorem modDoes (L : List OpS) (hL : L.length ≤ 1000) (v : Value) (hv : ∀ w', Holds e w' R → Reads w' v 5 L.length (L.flatMap OpS.cells)) (hk : ∀ o ∈ L, o.wr) (hO : ∀ o ∈ L, OpOk e R o) (H : Holds e w (modH m M :: R)) :
    Calls Tryz.prog 15 #[.pointer (some ⟨m, 0, none⟩), v] w
      (RetEx e (fun x : Value × List (Nat × Nat) => x.1) (fun x => pur (x.2.length = L.length) :: row x.1 50 3 L.length (runA M L x.2) :: modH m (runP M L x.2) :: R)) := by
  refine (modDoesL (A := fun t : List (Nat × Nat) => modH m (runP M (L.take t.length) t)) (Good := fun k t ans => t.length = k ∧ ans = runA M (L.take k) t) L hL v hv [] ⟨rfl, by cases L <;> rfl⟩ ?_ ?_ (by simpa [runP] using H)).mono ?_
  · intro k o ho
    obtain ⟨ad, c, h⟩ := ((hO o (List.mem_of_getElem? ho)).rd w H.drop).shape
    exact ⟨ad, _, c, h⟩
  · rintro k o ho t ans ⟨rfl, rfl⟩ X hX w' h
    have hok := hO o (List.mem_of_getElem? ho)
    refine (doesW o (hk o (List.mem_of_getElem? ho)) ⟨hok.a, fun w'' g => hok.rd w'' (hX _ g), hok.len⟩ h).mono ?_
    rintro en w1 ⟨p, rfl, h1⟩
    have e1 : L.take (t.length + 1) = L.take t.length ++ [o] := by rw [List.take_add_one, ho]; rfl
    have hlt : t.length < L.length := (List.getElem?_eq_some_iff.1 ho).1
    obtain ⟨h2, h3⟩ := run_snoc M (L.take t.length) t (by rw [List.length_take]; omega) o p
    refine ⟨t ++ [p], _, none, 0, 0, rfl, ⟨by simp, ?_⟩, ?_⟩
    · rw [e1, h3]; rfl
    · rw [List.length_append, List.length_singleton, e1, h2]
      exact h1
  · rintro en w1 ⟨v', t, ans, rfl, ⟨ht, rfl⟩, h1⟩
    rw [ht, List.take_length] at h1
    exact ⟨(v', t), rfl, Holds.mkPur ht h1⟩

theorem modDo1 (o : OpS) (v : Value) (hv : ∀ w', Holds e w' R → Reads w' v 5 1 o.cells) (hk : o.wr) (hO : OpOk e R o) (H : Holds e w (modH m M :: R)) :
    Calls Tryz.prog 15 #[.pointer (some ⟨m, 0, none⟩), v] w
      (RetEx e (fun x : Value × (Nat × Nat) => x.1) (fun x => row x.1 50 3 1 (ansC (opE M o)) :: modH m (opP M o x.2) :: R)) := by
  refine (modDoes [o] (by simp) v (by simpa using hv) (by simpa using hk) (by simpa using hO) H).mono ?_
  rintro en w1 ⟨⟨v', ps⟩, rfl, h⟩
  have hp := h.purE
  have h1 := h.drop
  match ps, hp with
  | [p], _ => exact ⟨(v', p), rfl, by simpa [runA, runP] using h1⟩

theorem modDo1R (o : OpS) (u : Nat) (hk : o.kind = 3 ∧ u = 1 ∨ o.kind = 5 ∧ u = 4) (hn0 : -9223372036854775808 ≤ o.n) (hn1 : o.n ≤ 9223372036854775807) (v : Value) (hv : ∀ w', Holds e w' R → Reads w' v 5 1 o.cells) (hO : OpOk e R o) (H : Holds e w (modH m M :: R)) :
    Calls Tryz.prog 15 #[.pointer (some ⟨m, 0, none⟩), v] w
      (RetEx e (fun x : Value × Value => x.1) (fun x => row x.1 50 3 1 [.int .i64 (chk M o.a o.n u), .int .i64 0, x.2] :: bts x.2 (rdE M o.a o.n u) :: modH m M :: R)) := by
  have hd : ∀ {w'} {X : List HP}, OpOk e X o → Holds e w' (modH m M :: X) → Calls Tryz.prog 27 #[.pointer (some ⟨m, 0, none⟩), o.val] w'
      (RetEx e (fun v : Value => ansVal (chk M o.a o.n u) v) (fun v => bts v (rdE M o.a o.n u) :: modH m M :: X)) := fun {w'} {X} hO' h => by
    rcases hk with ⟨h1, rfl⟩ | ⟨h1, rfl⟩
    · exact doesRd3 o h1 hn0 hn1 hO' h
    · exact doesRd5 o h1 hn0 hn1 hO' h
  refine (modDoesL (A := fun t : Option Value => match t with | none => modH m M | some d => grp [bts d (rdE M o.a o.n u), modH m M])
    (Good := fun k t ans => (k = 0 ∧ t = none ∧ ans = []) ∨ (k = 1 ∧ ∃ d, t = some d ∧ ans = [.int .i64 (chk M o.a o.n u), .int .i64 0, d])) [o] (by simp) v (by simpa using hv) none (.inl ⟨rfl, rfl, rfl⟩) ?_ ?_ H).mono ?_
  · intro k o' ho
    have : o' = o := by simpa using List.mem_of_getElem? ho
    subst this
    obtain ⟨ad, c, h⟩ := (hO.rd w H.drop).shape
    exact ⟨ad, _, c, h⟩
  · rintro k o' ho t ans hg X hX w' h
    have ho' : o' = o := by simpa using List.mem_of_getElem? ho
    subst ho'
    have hk0 : k = 0 := by have := (List.getElem?_eq_some_iff.1 ho).1; simpa using this
    subst hk0
    rcases hg with ⟨_, rfl, rfl⟩ | ⟨h1, _⟩
    · refine (hd ⟨hO.a, fun w'' g => hO.rd w'' (hX _ g), hO.len⟩ h).mono ?_
      rintro en w1 ⟨d, rfl, h1⟩
      obtain ⟨av, cv, hdv⟩ := (bts.reads h1).shape
      refine ⟨some d, chk M o'.a o'.n u, av, _, cv, by rw [← hdv], .inr ⟨rfl, d, rfl, by rw [← hdv]; rfl⟩, Holds.mkGrp (L := [bts _ _, modH _ _]) h1⟩
    · omega
  · rintro en w1 ⟨v', t, ans, rfl, hg, h1⟩
    rcases hg with ⟨h2, _, _⟩ | ⟨_, d, rfl, rfl⟩
    · simp at h2
    · exact ⟨(v', d), rfl, (Holds.ungrp (L := [bts d _, modH m M]) h1.swap).re 3 [2, 0, 1]⟩
end
end Go.Proofs.YtjbphdjheklhbaaGreat

/-
  Layer 37, the document's answer: where a page is; a list with a page.
-/
namespace Go.Proofs.YtjbphdjheklhbaaGreat
open Go.RowKit

def strB (l : List UInt8) : ByteArray := ⟨l.toArray⟩
def rfC (x : Pg) : List Value := [.int .i64 x.pg, .int .i64 x.perm, .string (strB x.bs)]
/-- v is the list M as the document has it. -/
def refH (v : Value) (M : List Pg) : HP := row v 103 3 M.length (M.flatMap rfC)
def RdR (w : World) (v : Value) (M : List Pg) : Prop := Reads w v 3 M.length (M.flatMap rfC) ∧ ∀ a n c, v = .slice (some a) n c → a.spot = none
theorem refH.rd {e : Env} {w : World} {R : List HP} {v : Value} {M : List Pg} (H : Holds e w (refH v M :: R)) : RdR w v M := by
  refine ⟨row.reads H, fun a n c h => ?_⟩
  rcases (row.open H).2 with ⟨rfl, _⟩ | ⟨g, cap, cur, rfl, _⟩
  · cases h
  · cases h; rfl
theorem RdR.nil (w : World) : RdR w (.slice none 0 0) [] := ⟨reads_none w 3, fun a n c h => by cases h⟩
theorem rfC_len (M : List Pg) : (M.flatMap rfC).length = M.length * 3 := by
  induction M with
  | nil => rfl
  | cons o L ih => simp [rfC, ih]; omega
theorem rfC_at {l : List Pg} {k : Nat} {b : Pg} (h : l[k]? = some b) (j : Nat) (hj : j < 3) : (l.flatMap rfC)[k * 3 + j]? = (rfC b)[j]? := by
  induction l generalizing k with
  | nil => simp at h
  | cons x l ih =>
    cases k with
    | zero =>
      simp at h
      subst h
      rw [Nat.zero_mul, Nat.zero_add, List.flatMap_cons, List.getElem?_append_left (by simp [rfC]; omega)]
    | succ k =>
      simp at h
      rw [List.flatMap_cons, List.getElem?_append_right (by simp [rfC]; omega), ← ih h]
      congr 1
      simp [rfC]
      omega
theorem rfC_take (M : List Pg) (k : Nat) : (M.flatMap rfC).take (k * 3) = (M.take k).flatMap rfC := by
  induction M generalizing k with
  | nil => simp
  | cons x M ih =>
    cases k with
    | zero => simp
    | succ k =>
      rw [List.flatMap_cons, List.take_succ_cons, List.flatMap_cons, ← ih, show (k + 1) * 3 = (rfC x).length + k * 3 by simp [rfC]; omega, List.take_length_add_append]
theorem rfC_drop (M : List Pg) (k : Nat) : (M.flatMap rfC).drop (k * 3) = (M.drop k).flatMap rfC := by
  induction M generalizing k with
  | nil => simp
  | cons x M ih =>
    cases k with
    | zero => simp
    | succ k =>
      rw [List.flatMap_cons, List.drop_succ_cons, ← ih, show (k + 1) * 3 = (rfC x).length + k * 3 by simp [rfC]; omega, List.drop_length_add_append]
theorem rfC_one (M : List Pg) : ∀ u ∈ M.flatMap rfC, u.oneCell' = true := by
  intro u hu
  obtain ⟨x, _, hx⟩ := List.mem_flatMap.1 hu
  simp only [rfC, List.mem_cons, List.not_mem_nil, or_false] at hx
  rcases hx with rfl | rfl | rfl <;> rfl
theorem elem_ref : ElemOf Tryz.prog 42 103 3 32 := ElemOf.mk (z := .agg #[.int .i64 0, .int .i64 0, .string ⟨#[]⟩]) (by kernel_rfl) (by kernel_rfl) rfl (by decide)

def Rise (M : List Pg) : Prop := M.Pairwise (fun x y => x.pg < y.pg)
/-- Where a page is, or belongs. -/
def atI (M : List Pg) (q : Nat) : Nat := (M.filter fun y => decide (y.pg < q)).length
theorem filter_lt_take {M : List Pg} (h : Rise M) (q : Nat) : M.filter (fun y => decide (y.pg < q)) = M.take (atI M q) ∧ M.filter (fun y => decide (q ≤ y.pg)) = M.drop (atI M q) := by
  induction M with
  | nil => exact ⟨rfl, rfl⟩
  | cons x M ih =>
    obtain ⟨h1, h2⟩ := List.pairwise_cons.1 h
    obtain ⟨i1, i2⟩ := ih h2
    unfold atI at *
    by_cases hx : x.pg < q
    · simp only [List.filter_cons, decide_eq_true hx, if_true, decide_eq_false (show ¬ q ≤ x.pg by omega), List.length_cons, List.take_succ_cons, List.drop_succ_cons]
      exact ⟨by rw [← i1], by simpa using i2⟩
    · have e0 : M.filter (fun y => decide (y.pg < q)) = [] := List.filter_eq_nil_iff.2 fun y hy => by
        have := h1 y hy
        simp; omega
      have e1 : M.filter (fun y => decide (q ≤ y.pg)) = M := List.filter_eq_self.2 fun y hy => by
        have := h1 y hy
        simp; omega
      simp only [List.filter_cons, decide_eq_false hx, decide_eq_true (show q ≤ x.pg by omega), if_true, e0, e1]
      exact ⟨rfl, rfl⟩
theorem atI_le (M : List Pg) (q : Nat) : atI M q ≤ M.length := List.length_filter_le _ _
theorem at_end {M : List Pg} {q : Nat} (h : ∀ x ∈ M, x.pg < q) : atI M q = M.length ∧ (fnd M q).isSome = false := by
  refine ⟨?_, ?_⟩
  · unfold atI
    rw [List.filter_eq_self.2 fun y hy => by simpa using h y hy]
  · unfold fnd
    rw [Bool.eq_false_iff]
    intro hs
    rw [List.find?_isSome] at hs
    obtain ⟨x, hx, hq⟩ := hs
    have := h x hx
    simp at hq
    omega
theorem at_stop {M : List Pg} (hR : Rise M) {q k : Nat} {x : Pg} (h0 : ∀ j y, j < k → M[j]? = some y → y.pg < q) (hx : M[k]? = some x) (hq : q ≤ x.pg) : atI M q = k ∧ (fnd M q).isSome = decide (x.pg = q) := by
  obtain ⟨hk, hkx⟩ := List.getElem?_eq_some_iff.1 hx
  have hp := List.pairwise_iff_getElem.1 hR
  have hat : atI M q = k := by
    have h1 := (filter_lt_take hR q).1
    have hle := atI_le M q
    rcases Nat.lt_trichotomy (atI M q) k with h | h | h
    · exfalso
      have hj : atI M q < M.length := by omega
      have hlt := h0 (atI M q) M[atI M q] h (List.getElem?_eq_getElem hj)
      have h2 := (filter_lt_take hR q).2
      have hm : M[atI M q] ∈ M.drop (atI M q) := by
        rw [List.mem_iff_getElem?]
        exact ⟨0, by rw [List.getElem?_drop, Nat.add_zero, List.getElem?_eq_getElem hj]⟩
      rw [← h2, List.mem_filter] at hm
      have := hm.2
      simp at this
      omega
    · exact h
    · exfalso
      have hm : x ∈ M.take (atI M q) := by
        rw [List.mem_iff_getElem?]
        exact ⟨k, by rw [List.getElem?_take, if_pos h, hx]⟩
      rw [← h1, List.mem_filter] at hm
      have := hm.2
      simp at this
      omega
  refine ⟨hat, ?_⟩
  rw [Bool.eq_iff_iff, decide_eq_true_eq]
  unfold fnd
  rw [List.find?_isSome]
  constructor
  · rintro ⟨y, hy, hyq⟩
    simp at hyq
    obtain ⟨j, hj⟩ := List.mem_iff_getElem?.1 hy
    obtain ⟨hj1, hj2⟩ := List.getElem?_eq_some_iff.1 hj
    rcases Nat.lt_trichotomy j k with h | h | h
    · have := h0 j y h hj; omega
    · subst h; rw [hkx] at hj2; subst hj2; exact hyq
    · have := hp k j hk hj1 h
      rw [hkx, hj2] at this
      omega
  · intro he
    exact ⟨x, List.mem_of_getElem? hx, by simpa using he⟩
/-- What lies behind a page. -/
theorem ins_take {M : List Pg} (hR : Rise M) (x : Pg) : insPg M x = M.take (atI M x.pg) ++ x :: M.drop (if (fnd M x.pg).isSome then atI M x.pg + 1 else atI M x.pg) := by
  obtain ⟨h1, h2⟩ := filter_lt_take hR x.pg
  unfold insPg
  rw [h1]
  congr 2
  have e1 : M.filter (fun y => decide (x.pg < y.pg)) = (M.drop (atI M x.pg)).filter (fun y => decide (x.pg < y.pg)) := by
    rw [← h2, List.filter_filter]
    apply List.filter_congr
    intro y _
    rw [Bool.eq_iff_iff]; simp; omega
  have hdr : Rise (M.drop (atI M x.pg)) := hR.sublist (List.drop_sublist _ _)
  have hge : ∀ y ∈ M.drop (atI M x.pg), x.pg ≤ y.pg := fun y hy => by
    rw [← h2, List.mem_filter] at hy
    simpa using hy.2
  rw [e1]
  by_cases hs : (fnd M x.pg).isSome = true
  · rw [if_pos hs, ← List.drop_drop]
    obtain ⟨z, hz⟩ := Option.isSome_iff_exists.1 hs
    have hzm : z ∈ M.drop (atI M x.pg) := by
      obtain ⟨i, hi, hq⟩ := fnd_at hz
      rw [← h2, List.mem_filter]
      exact ⟨List.mem_of_getElem? hi, by simp; omega⟩
    have hzq : z.pg = x.pg := by obtain ⟨i, hi, hq⟩ := fnd_at hz; exact hq
    generalize M.drop (atI M x.pg) = D at *
    cases D with
    | nil => cases hzm
    | cons d D =>
      obtain ⟨g1, g2⟩ := List.pairwise_cons.1 hdr
      have hd : d.pg = x.pg := by
        have := hge d (by simp)
        rcases List.mem_cons.1 hzm with rfl | h
        · exact hzq
        · have := g1 z h; omega
      rw [List.filter_cons, if_neg (by simp; omega)]
      show _ = D
      exact List.filter_eq_self.2 fun y hy => by have := g1 y hy; simp; omega
  · rw [if_neg hs]
    refine List.filter_eq_self.2 fun y hy => ?_
    have h3 := hge y hy
    have hne : y.pg ≠ x.pg := fun he => hs (by
      unfold fnd
      rw [List.find?_isSome]
      exact ⟨y, List.mem_of_mem_drop hy, by simpa using he⟩)
    simp; omega

section
variable {e : Env} {w : World} {R : List HP} {M : List Pg}
set_option maxRecDepth 100000 in
theorem refAt (hR : Rise M) (hl : M.length ≤ 1000000) (v : Value) (hr : RdR w v M) (q : Nat) : Calls Tryz.prog 61 #[v, .int .i64 q] w (Quiet w (.tuple #[.int .i64 (atI M q), .bool (fnd M q).isSome])) := by
  obtain ⟨hr, _⟩ := hr
  obtain ⟨ad, c, rfl⟩ := Reads.shape hr
  obtain ⟨n, hn⟩ : ∃ n, M.length = n := ⟨_, rfl⟩
  rw [hn] at hl hr ⊢
  have HN := Lib.hid hn
  have HRD := Lib.hid hr
  have HRR := Lib.hid hR
  clear hn hr hR
  go_enter Tryz.func61, Tryz.ntmps61
  go_wp2_with fail
  go_loopw [6] (fun i wr => ∃ (k : Nat), k ≤ n ∧ i = .int .i64 (k : Nat) ∧ Hid (∀ j y, j < k → M[j]? = some y → y.pg < q) ∧ ∃ m, wr = w.drewN m) (fun i _ => n - (Go.RowKit.intOf i).toNat)
  case atStart => exact ⟨0, by omega, rfl, Lib.hid (fun j y h => by omega), 0, rfl⟩
  case round =>
    obtain ⟨k, hk, rfl, hz, m, rfl⟩ := hrel
    by_cases hlt : k < n
    · obtain ⟨x, hx⟩ : ∃ x, M[k]? = some x := ⟨_, List.getElem?_eq_getElem (by rw [HN.out]; exact hlt)⟩
      obtain ⟨g, o, rfl, h1⟩ := HRD.out.at (by omega)
      have c1 : w.cell? ⟨g, o + k * 3, none⟩ = some (.int .i64 x.pg) := h1 _ _ (rfC_at hx 0 (by omega))
      by_cases hq : q ≤ x.pg
      · obtain ⟨h2, h3⟩ := at_stop HRR.out hz.out hx hq
        have HF : Hid (atI M q = k ∧ (fnd M q).isSome = decide (x.pg = q)) := Lib.hid ⟨h2, h3⟩
        clear h1 hz hx h2 h3
        generalize x.pg = y at *
        have d1 : decide ((q : Int) ≤ (y : Int)) = true := decide_eq_true (by omega)
        have d2 : ((y : Int) == (q : Int)) = decide (y = q) := by rw [Bool.eq_iff_iff]; simp; omega
        go_wp2_with fail
        go_quiet (fail)
        go_wp2_with fail
        go_ret2
        exact ⟨by rw [HF.out.1, HF.out.2, ← d2]; rfl, _, World.drewN_drewN ..⟩
      · have hz2 : Hid (∀ j y, j < k + 1 → M[j]? = some y → y.pg < q) := Lib.hid fun j y h hy => by
          rcases Nat.lt_succ_iff_lt_or_eq.1 h with h | rfl
          · exact hz.out j y h hy
          · rw [hx] at hy; cases hy; omega
        clear h1 hz hx
        generalize x.pg = y at *
        have d1 : decide ((q : Int) ≤ (y : Int)) = false := decide_eq_false (by omega)
        go_wp2_with fail
        go_roundw
        case rel => exact ⟨k + 1, by omega, by go_num, hz2, _, rfl⟩
        case measure => simp [Go.RowKit.intOf]; omega
    · obtain rfl : n = k := by omega
      have HF : Hid (atI M q = n ∧ (fnd M q).isSome = false) := Lib.hid (by
        rw [← HN.out]
        exact at_end fun x hx => by
          obtain ⟨j, hj⟩ := List.mem_iff_getElem?.1 hx
          exact hz.out j x (by have := (List.getElem?_eq_some_iff.1 hj).1; rw [HN.out] at this; exact this) hj)
      clear hz
      go_wp2_with fail
      go_ret2
      exact ⟨by rw [HF.out.1, HF.out.2]; rfl, _, rfl⟩
end
end Go.Proofs.YtjbphdjheklhbaaGreat

/-
  Layer 37, the document's answer: a list with a page.
-/
namespace Go.Proofs.YtjbphdjheklhbaaGreat
open Go.RowKit

theorem Rise.ins {M : List Pg} (h : Rise M) (x : Pg) : Rise (insPg M x) := by
  unfold insPg
  refine List.pairwise_append.2 ⟨List.Pairwise.filter _ h, List.pairwise_cons.2 ⟨fun y hy => by simpa using (List.mem_filter.1 hy).2, List.Pairwise.filter _ h⟩, fun y hy z hz => ?_⟩
  have h1 : y.pg < x.pg := by simpa using (List.mem_filter.1 hy).2
  rcases List.mem_cons.1 hz with rfl | hz
  · exact h1
  · have h2 : x.pg < z.pg := by simpa using (List.mem_filter.1 hz).2
    omega
theorem ins_len (M : List Pg) (x : Pg) : (insPg M x).length ≤ M.length + 1 := by
  unfold insPg
  rw [List.length_append, List.length_cons]
  have h1 := List.length_filter_le (fun y => decide (y.pg < x.pg)) M
  have : (M.filter (fun y => decide (y.pg < x.pg))).length + (M.filter (fun y => decide (x.pg < y.pg))).length ≤ M.length := by
    clear h1
    induction M with
    | nil => simp
    | cons y M ih =>
      simp only [List.filter_cons]
      by_cases h1 : y.pg < x.pg
      · simp only [decide_eq_true h1, decide_eq_false (show ¬ x.pg < y.pg by omega), if_true, List.length_cons]
        simp; omega
      · by_cases h2 : x.pg < y.pg
        · simp only [decide_eq_false h1, decide_eq_true h2, if_true, List.length_cons]
          simp; omega
        · simp only [decide_eq_false h1, decide_eq_false h2]
          simp; omega
  omega

section
variable {e : Env} {w : World} {R : List HP} {M : List Pg}
set_option maxRecDepth 100000 in
set_option maxHeartbeats 1000000 in
theorem refPut (hR : Rise M) (hl : M.length ≤ 100000) (v : Value) (hr : ∀ w', Holds e w' R → RdR w' v M) (x : Pg) (H : Holds e w R) : Calls Tryz.prog 63 #[v, .agg (rfC x).toArray] w (RetEx e (fun v' : Value => v') (fun v' => refH v' (insPg M x) :: R)) := by
  have CA : Hid (∀ w' X, (∀ w'', Holds e w'' X → Holds e w'' R) → Holds e w' X → Calls Tryz.prog 61 #[v, .int .i64 x.pg] w' (Ret e (.tuple #[.int .i64 (atI M x.pg), .bool (fnd M x.pg).isSome]) X)) := Lib.hid fun w' X hX h => retQ (refAt hR (by omega) v (hr _ (hX _ h)) x.pg) h
  obtain ⟨ad, c, rfl⟩ := Reads.shape (hr _ H).1
  have hI := ins_take hR x
  have hle := atI_le M x.pg
  obtain ⟨b, hb⟩ : ∃ b, (fnd M x.pg).isSome = b := ⟨_, rfl⟩
  have hbl : b = true → atI M x.pg < M.length := fun h => by
    rw [h] at hb
    obtain ⟨z, hz⟩ := Option.isSome_iff_exists.1 hb
    obtain ⟨i, hi, hq⟩ := fnd_at hz
    have h2 := (filter_lt_take hR x.pg).2
    have hm : z ∈ M.drop (atI M x.pg) := by
      rw [← h2, List.mem_filter]
      exact ⟨List.mem_of_getElem? hi, by simp; omega⟩
    have := List.length_pos_of_mem hm
    rw [List.length_drop] at this
    omega
  obtain ⟨i, hi⟩ : ∃ i, atI M x.pg = i := ⟨_, rfl⟩
  rw [hb, hi] at hI
  rw [hb, hi] at CA
  rw [hi] at hle hbl
  obtain ⟨j, hj⟩ : ∃ j, (if b then i + 1 else i) = j := ⟨_, rfl⟩
  rw [hj] at hI
  have hjn : j ≤ M.length := by
    rw [← hj]
    cases b with
    | false => exact hle
    | true => exact hbl rfl
  obtain ⟨n, hn⟩ : ∃ n, M.length = n := ⟨_, rfl⟩
  have HINS : Hid ((insPg M x).length = i + 1 + (n - j) ∧ (insPg M x).flatMap rfC = (M.take i).flatMap rfC ++ [.int .i64 x.pg, .int .i64 x.perm, .string (strB x.bs)] ++ (M.drop j).flatMap rfC) := Lib.hid (by
    rw [hI]
    refine ⟨?_, ?_⟩
    · simp; omega
    · rw [List.flatMap_append, List.flatMap_cons, List.append_assoc]; rfl)
  have HRD := Lib.hid hr
  rw [hn] at hl hle hjn hbl HRD ⊢
  rw [hn] at CA
  obtain ⟨xb, hxb⟩ : ∃ xb, w.heap.size = xb := ⟨_, rfl⟩
  obtain ⟨sx, hsx⟩ : ∃ sx, strB x.bs = sx := ⟨_, rfl⟩
  have H1 := H.alloc (.cells #[.int .i64 x.pg, .int .i64 x.perm, .string sx] 103)
  rw [hxb] at H1
  have HX0 : Hid (∀ w' Y X, Holds e w' (Y :: pts xb (.cells #[.int .i64 x.pg, .int .i64 x.perm, .string sx] 103 (0, 0)) :: X) → ∀ j, w'.cell? ⟨xb, j, none⟩ = (#[.int .i64 x.pg, .int .i64 x.perm, .string sx] : Array Value)[j]?) := Lib.hid fun w' Y X h => h.swap.cells
  have hx1 := H1.cells
  have HN := Lib.hid hn
  unfold rfC
  rw [hsx] at HINS ⊢
  clear hr H hI hn hb hi hsx
  have hnone : ad = none → n = 0 ∧ c = 0 := fun h => by
    subst h
    have h2 := HRD.out _ H1.drop
    rcases h2.1.2 with ⟨h3, h4⟩ | ⟨a, cap, h3, _⟩
    · cases h3; exact ⟨HN.out.symm.trans h4, rfl⟩
    · cases h3
  go_enter Tryz.func63, Tryz.ntmps63
  go_wp2_with fail
  refine (CA.out _ _ (fun _ g => g.drop) H1).mono ?_
  rintro en w2 ⟨rfl, H2⟩
  clear H1 hx1 CA
  cases ad with
  | none =>
    obtain ⟨rfl, rfl⟩ := hnone rfl
    obtain rfl : i = 0 := by omega
    obtain rfl : j = 0 := by omega
    obtain rfl : M = [] := List.eq_nil_of_length_eq_zero HN.out
    cases b with
    | true => exact absurd (hbl rfl) (by omega)
    | false =>
      clear hbl hnone hj
      have HA1 : Holds e (w2.alloc (.cells #[] 103)) (row (.slice (some ⟨w2.heap.size, 0, none⟩) 0 0) 103 3 0 [] :: pts xb (.cells #[.int .i64 x.pg, .int .i64 x.perm, .string sx] 103 (0, 0)) :: R) := row.made (H2.alloc _) (Nat.le_refl _) (by decide) rfl rfl
      have HR1 : Reads (w2.alloc (.cells #[] 103)) (.slice none 0 0) 3 0 ((([]).take 0).flatMap rfC) := (reads_none _ 3)
      go_wp2_with (at_builtin; refine wpList_append_sl rfl (.tmp 15) _ _ rfl 103 3 32 elem_ref (.slice (some ⟨w2.heap.size, 0, none⟩) 0 0) 0 [] rfl HA1 (.slice none 0 0) 0 ((([]).take 0).flatMap rfC) rfl HR1 (rfC_one _) ?_ ?_ ?_)
      · unfold maxLen; omega
      · omega
      intro v5 w5 H5
      clear HA1 HR1 H2
      have hx5 := HX0.out _ _ _ H5
      have HA2 : Holds e (w5.alloc (.cells #[.int .i64 x.pg, .int .i64 x.perm, .string sx] 103)) (row v5 103 3 0 ((([]).take 0).flatMap rfC) :: pts xb (.cells #[.int .i64 x.pg, .int .i64 x.perm, .string sx] 103 (0, 0)) :: R) := (H5.alloc _).drop
      have HR2 := reads_lits w5 [.int .i64 x.pg, .int .i64 x.perm, .string sx] 103 1 3 rfl
      clear H5
      go_wp2_with (at_builtin; refine wpList_append_sl rfl (.tmp 20) _ _ rfl 103 3 32 elem_ref v5 0 ((([]).take 0).flatMap rfC) rfl HA2 (.slice (some ⟨w5.heap.size, 0, none⟩) 1 1) 1 [.int .i64 x.pg, .int .i64 x.perm, .string sx] rfl HR2 (by simp [Value.oneCell']) ?_ ?_ ?_)
      · unfold maxLen; omega
      · omega
      intro v6 w6 H6
      clear HA2 HR2 hx5
      have HR3 : Reads w6 (.slice none 0 0) 3 (0 - 0) ((([]).drop 0).flatMap rfC) := (reads_none _ 3)
      go_wp2_with (at_builtin; refine wpList_append_sl rfl (.tmp 27) _ _ rfl 103 3 32 elem_ref v6 (0 + 1) ((([]).take 0).flatMap rfC ++ [.int .i64 x.pg, .int .i64 x.perm, .string sx]) rfl H6 (.slice none 0 0) (0 - 0) ((([]).drop 0).flatMap rfC) rfl HR3 (rfC_one _) ?_ ?_ ?_)
      · unfold maxLen; omega
      · omega
      intro v7 w7 H7
      have HF : Hid (Holds e w7 (refH v7 (insPg [] x) :: R)) := Lib.hid (by
        unfold refH
        obtain ⟨q1, q2⟩ := HINS.out
        rw [q1, q2]
        have H8 := H7.d1
        simp only [List.append_assoc, List.cons_append, List.nil_append] at H8 ⊢
        exact row_len H8 (by omega))
      clear H6 H7 HR3
      go_wp2_with fail
      go_ret
      exact ⟨v7, rfl, HF.out⟩
  | some a =>
    clear hnone
    obtain ⟨g, o, s0⟩ := a
    have hrr := HRD.out _ H2.drop
    have hcn : n ≤ c := by
      rcases hrr.1.2 with ⟨h3, _⟩ | ⟨a, cap, h3, h4, _⟩
      · cases h3
      · cases h3; rw [← HN.out]; exact h4
    obtain rfl : s0 = none := hrr.2 _ _ _ rfl
    clear hrr
    have HV1 : Hid (∀ w', Holds e w' R → Reads w' (.slice (some ⟨g, o, none⟩) i c) 3 i ((M.take i).flatMap rfC)) := Lib.hid fun w' h => by
      rw [← rfC_take]
      exact reads_take (by have := (HRD.out w' h).1; rw [HN.out] at this; exact this) hle
    have HV2 : Hid (∀ w' x', (if c = j then some (⟨g, o, none⟩ : Addr) else some ⟨g, o + j * 3, none⟩) = some ⟨g, x', none⟩ → Holds e w' R → Reads w' (.slice (some ⟨g, x', none⟩) (n - j) (c - j)) 3 (n - j) ((M.drop j).flatMap rfC)) := Lib.hid fun w' x' hx h => by
      have h2 : Reads w' (.slice (some ⟨g, o + j * 3, none⟩) (n - j) (c - j)) 3 (n - j) ((M.drop j).flatMap rfC) := by
        rw [← rfC_drop]
        exact reads_drop (by have := (HRD.out w' h).1; rw [HN.out] at this; exact this) hjn
      by_cases hc : c = j
      · have hn0 : n - j = 0 := by omega
        have hl := h2.1
        rw [hn0] at hl
        have hnil : (M.drop j).flatMap rfC = [] := List.eq_nil_of_length_eq_zero (by simpa using hl)
        rw [hn0, hnil]
        exact reads_none' _ _ _ _
      · rw [if_neg hc] at hx
        cases hx
        exact h2
    obtain ⟨x', hx'⟩ : ∃ x', (if c = j then some (⟨g, o, none⟩ : Addr) else some ⟨g, o + j * 3, none⟩) = some ⟨g, x', none⟩ := by
      by_cases hc : c = j
      · exact ⟨o, if_pos hc⟩
      · exact ⟨o + j * 3, if_neg hc⟩
    have HX' := Lib.hid hx'
    cases b with
    | true =>
      obtain rfl : j = i + 1 := hj.symm
      have := hbl rfl
      have HA1 : Holds e (w2.alloc (.cells #[] 103)) (row (.slice (some ⟨w2.heap.size, 0, none⟩) 0 0) 103 3 0 [] :: pts xb (.cells #[.int .i64 x.pg, .int .i64 x.perm, .string sx] 103 (0, 0)) :: R) := row.made (H2.alloc _) (Nat.le_refl _) (by decide) rfl rfl
      have HR1 : Reads (w2.alloc (.cells #[] 103)) (.slice (some ⟨g, o, none⟩) i c) 3 i (((M).take i).flatMap rfC) := (HV1.out _ (H2.alloc _).drop.drop)
      go_wp2_with (at_builtin; refine wpList_append_sl rfl (.tmp 15) _ _ rfl 103 3 32 elem_ref (.slice (some ⟨w2.heap.size, 0, none⟩) 0 0) 0 [] rfl HA1 (.slice (some ⟨g, o, none⟩) i c) i (((M).take i).flatMap rfC) rfl HR1 (rfC_one _) ?_ ?_ ?_)
      · unfold maxLen; omega
      · omega
      intro v5 w5 H5
      clear HA1 HR1 H2
      have hx5 := HX0.out _ _ _ H5
      have HA2 : Holds e (w5.alloc (.cells #[.int .i64 x.pg, .int .i64 x.perm, .string sx] 103)) (row v5 103 3 i (((M).take i).flatMap rfC) :: pts xb (.cells #[.int .i64 x.pg, .int .i64 x.perm, .string sx] 103 (0, 0)) :: R) := (H5.alloc _).drop
      have HR2 := reads_lits w5 [.int .i64 x.pg, .int .i64 x.perm, .string sx] 103 1 3 rfl
      clear H5
      go_wp2_with (at_builtin; refine wpList_append_sl rfl (.tmp 20) _ _ rfl 103 3 32 elem_ref v5 i (((M).take i).flatMap rfC) rfl HA2 (.slice (some ⟨w5.heap.size, 0, none⟩) 1 1) 1 [.int .i64 x.pg, .int .i64 x.perm, .string sx] rfl HR2 (by simp [Value.oneCell']) ?_ ?_ ?_)
      · unfold maxLen; omega
      · omega
      intro v6 w6 H6
      clear HA2 HR2 hx5
      have HR3 : Reads w6 (.slice (some ⟨g, x', none⟩) (n - (i + 1)) (c - (i + 1))) 3 (n - (i + 1)) (((M).drop (i + 1)).flatMap rfC) := (HV2.out _ _ HX'.out H6.drop.drop)
      go_wp2_with (at_builtin; refine wpList_append_sl rfl (.tmp 27) _ _ rfl 103 3 32 elem_ref v6 (i + 1) (((M).take i).flatMap rfC ++ [.int .i64 x.pg, .int .i64 x.perm, .string sx]) rfl H6 (.slice (some ⟨g, x', none⟩) (n - (i + 1)) (c - (i + 1))) (n - (i + 1)) (((M).drop (i + 1)).flatMap rfC) rfl HR3 (rfC_one _) ?_ ?_ ?_)
      · unfold maxLen; omega
      · omega
      intro v7 w7 H7
      have HF : Hid (Holds e w7 (refH v7 (insPg M x) :: R)) := Lib.hid (by
        unfold refH
        obtain ⟨q1, q2⟩ := HINS.out
        rw [q1, q2]
        have H8 := H7.d1
        simp only [List.append_assoc, List.cons_append, List.nil_append] at H8 ⊢
        exact row_len H8 (by omega))
      clear H6 H7 HR3
      go_wp2_with fail
      go_ret
      exact ⟨v7, rfl, HF.out⟩
    | false =>
      obtain rfl : i = j := hj
      have HA1 : Holds e (w2.alloc (.cells #[] 103)) (row (.slice (some ⟨w2.heap.size, 0, none⟩) 0 0) 103 3 0 [] :: pts xb (.cells #[.int .i64 x.pg, .int .i64 x.perm, .string sx] 103 (0, 0)) :: R) := row.made (H2.alloc _) (Nat.le_refl _) (by decide) rfl rfl
      have HR1 : Reads (w2.alloc (.cells #[] 103)) (.slice (some ⟨g, o, none⟩) i c) 3 i (((M).take i).flatMap rfC) := (HV1.out _ (H2.alloc _).drop.drop)
      go_wp2_with (at_builtin; refine wpList_append_sl rfl (.tmp 15) _ _ rfl 103 3 32 elem_ref (.slice (some ⟨w2.heap.size, 0, none⟩) 0 0) 0 [] rfl HA1 (.slice (some ⟨g, o, none⟩) i c) i (((M).take i).flatMap rfC) rfl HR1 (rfC_one _) ?_ ?_ ?_)
      · unfold maxLen; omega
      · omega
      intro v5 w5 H5
      clear HA1 HR1 H2
      have hx5 := HX0.out _ _ _ H5
      have HA2 : Holds e (w5.alloc (.cells #[.int .i64 x.pg, .int .i64 x.perm, .string sx] 103)) (row v5 103 3 i (((M).take i).flatMap rfC) :: pts xb (.cells #[.int .i64 x.pg, .int .i64 x.perm, .string sx] 103 (0, 0)) :: R) := (H5.alloc _).drop
      have HR2 := reads_lits w5 [.int .i64 x.pg, .int .i64 x.perm, .string sx] 103 1 3 rfl
      clear H5
      go_wp2_with (at_builtin; refine wpList_append_sl rfl (.tmp 20) _ _ rfl 103 3 32 elem_ref v5 i (((M).take i).flatMap rfC) rfl HA2 (.slice (some ⟨w5.heap.size, 0, none⟩) 1 1) 1 [.int .i64 x.pg, .int .i64 x.perm, .string sx] rfl HR2 (by simp [Value.oneCell']) ?_ ?_ ?_)
      · unfold maxLen; omega
      · omega
      intro v6 w6 H6
      clear HA2 HR2 hx5
      have HR3 : Reads w6 (.slice (some ⟨g, x', none⟩) (n - i) (c - i)) 3 (n - i) (((M).drop i).flatMap rfC) := (HV2.out _ _ HX'.out H6.drop.drop)
      go_wp2_with (at_builtin; refine wpList_append_sl rfl (.tmp 27) _ _ rfl 103 3 32 elem_ref v6 (i + 1) (((M).take i).flatMap rfC ++ [.int .i64 x.pg, .int .i64 x.perm, .string sx]) rfl H6 (.slice (some ⟨g, x', none⟩) (n - i) (c - i)) (n - i) (((M).drop i).flatMap rfC) rfl HR3 (rfC_one _) ?_ ?_ ?_)
      · unfold maxLen; omega
      · omega
      intro v7 w7 H7
      have HF : Hid (Holds e w7 (refH v7 (insPg M x) :: R)) := Lib.hid (by
        unfold refH
        obtain ⟨q1, q2⟩ := HINS.out
        rw [q1, q2]
        have H8 := H7.d1
        simp only [List.append_assoc, List.cons_append, List.nil_append] at H8 ⊢
        exact row_len H8 (by omega))
      clear H6 H7 HR3
      go_wp2_with fail
      go_ret
      exact ⟨v7, rfl, HF.out⟩
end
end Go.Proofs.YtjbphdjheklhbaaGreat

/-
  Package heap: a model as a memory.
-/
namespace Go.Proofs.YtjbphdjheklhbaaGreat
open Go.RowKit

def memV (m : Nat) : Value := .iface 129 (.agg #[.pointer (some ⟨m, 0, none⟩)])
section
variable {e : Env} {w : World} {R : List HP} {m : Nat} {M : List Pg}
theorem hpFlat : Calls Tryz.prog 37 #[.pointer (some ⟨m, 0, none⟩)] w (Quiet w (memV m)) := by
  go_enter Tryz.func37, Tryz.ntmps37
  go_wp2_with fail
  go_ret
  exact ⟨rfl, 0, rfl⟩
theorem reads_op {blk : Nat} {T : TypeId} {xs : List Value} (n size : Nat) (hx : xs.length = n * size) (H : Holds e w (pts blk (.cells xs.toArray T (0, 0)) :: R)) : Reads w (.slice (some ⟨blk, 0, none⟩) n n) size n xs := by
  refine ⟨hx, .inr ⟨_, _, rfl, Nat.le_refl _, fun j u hj => ?_⟩⟩
  rw [Addr.add_at, Nat.zero_add, H.cells]
  simpa using hj

set_option maxRecDepth 100000 in
set_option maxHeartbeats 1000000 in
theorem flatLoad {a : Nat} (ha : a < 18446744073709551616) (n : Int) (hn0 : -9223372036854775808 ≤ n) (hn1 : n ≤ 9223372036854775807) (H : Holds e w (modH m M :: R)) :
    Calls Tryz.prog 123 #[.agg #[.pointer (some ⟨m, 0, none⟩)], .int .u64 a, .int .i64 n] w
      (RetEx e (fun d : Value => .tuple #[d, .int .i64 (chk M a n 1)]) (fun d => bts d (rdE M a n 1) :: modH m M :: R)) := by
  have H1 := (H.alloc (.cells #[.pointer (some ⟨m, 0, none⟩)] 129)).alloc (.cells (OpS.cells ⟨3, 0, n, a, .slice none 0 0, []⟩).toArray 48)
  rw [World.size_alloc] at H1
  have CD : Hid (∀ w' blk, Holds e w' (modH m M :: pts blk (.cells (OpS.cells ⟨3, 0, n, a, .slice none 0 0, []⟩).toArray 48 (0, 0)) :: R) → Calls Tryz.prog 15 #[.pointer (some ⟨m, 0, none⟩), .slice (some ⟨blk, 0, none⟩) 1 1] w'
      (RetEx e (fun x : Value × Value => x.1) (fun x => row x.1 50 3 1 [.int .i64 (chk M a n 1), .int .i64 0, x.2] :: bts x.2 (rdE M a n 1) :: modH m M :: R))) := Lib.hid fun w' blk h =>
    (modDo1R ⟨3, 0, n, a, .slice none 0 0, []⟩ 1 (.inl ⟨rfl, rfl⟩) hn0 hn1 (.slice (some ⟨blk, 0, none⟩) 1 1) (fun w'' g => reads_op 1 5 rfl g) ⟨ha, fun w'' _ => reads_none _ _, by simp⟩ h).mono fun en w'' ⟨x, h1, h2⟩ => ⟨x, h1, h2.d3⟩
  have H2 : Holds e _ (modH m M :: pts (w.heap.size + 1) (.cells (OpS.cells ⟨3, 0, n, a, .slice none 0 0, []⟩).toArray 48 (0, 0)) :: R) := H1.re 3 [2, 0]
  unfold OpS.cells at H2 CD
  clear H H1
  generalize rdE M a n 1 = out at *
  generalize chk M a n 1 = E at *
  go_enter Tryz.func123, Tryz.ntmps123
  go_wp2_with fail
  refine (CD.out _ _ H2).mono ?_
  rintro en w1 ⟨⟨v, d⟩, rfl, H3⟩
  dsimp only at *
  obtain ⟨hl, hx⟩ := row.open H3
  rcases hx with ⟨_, h0⟩ | ⟨g, cap, cur, rfl, hc1, hc2, hc3, hc4, H4⟩
  · cases h0
  obtain ⟨av, cv, hdv⟩ := (bts.reads H4.swap).shape
  obtain ⟨lv, hlv⟩ : ∃ lv, out.length = lv := ⟨_, rfl⟩
  rw [hlv] at hdv
  subst hdv
  have hcur : ∀ j, j < 3 → cur[j]? = [Value.int .i64 E, .int .i64 0, .slice av lv cv][j]? := fun j hj => by
    rw [← hc4, List.getElem?_take, if_pos (by omega), Array.getElem?_toList]
  have c0 : w1.cell? ⟨g, 0, none⟩ = some (.int .i64 E) := (H4.cells 0).trans (hcur 0 (by omega))
  have c1 : w1.cell? ⟨g, 1, none⟩ = some (.int .i64 0) := (H4.cells 1).trans (hcur 1 (by omega))
  have c2 : w1.cell? ⟨g, 2, none⟩ = some (.slice av lv cv) := (H4.cells 2).trans (hcur 2 (by omega))
  have HH := Lib.hid H4.drop
  clear H4 H3 H2 hc1 hc2 hc3 hc4 hl hcur hlv CD
  go_wp2_with fail
  go_quiet (fail)
  go_wp2_with fail
  go_ret2
  exact ⟨.slice av lv cv, rfl, (HH.out.alloc _).drop.drewN _⟩

set_option maxRecDepth 100000 in
set_option maxHeartbeats 1000000 in
theorem flatStore {a : Nat} (ha : a < 18446744073709551616) {d : Value} {ds : List UInt8} (hr : ∀ w', Holds e w' R → RdB w' d ds) (hl : ds.length ≤ 4611686018427387904) (H : Holds e w (modH m M :: R)) :
    Calls Tryz.prog 124 #[.agg #[.pointer (some ⟨m, 0, none⟩)], .int .u64 a, d] w
      (Ret e (.int .i64 (chk M a ds.length 2)) (modH m (stoP M a ds) :: R)) := by
  obtain ⟨ad, c, rfl⟩ := (hr w H.drop).shape
  have H1 := (H.alloc (.cells #[.pointer (some ⟨m, 0, none⟩)] 129)).alloc (.cells (OpS.cells ⟨4, 0, 0, a, .slice ad ds.length c, ds⟩).toArray 48)
  rw [World.size_alloc] at H1
  have CD : Hid (∀ w' blk, Holds e w' (modH m M :: pts blk (.cells (OpS.cells ⟨4, 0, 0, a, .slice ad ds.length c, ds⟩).toArray 48 (0, 0)) :: R) → Calls Tryz.prog 15 #[.pointer (some ⟨m, 0, none⟩), .slice (some ⟨blk, 0, none⟩) 1 1] w'
      (RetEx e (fun v : Value => v) (fun v => row v 50 3 1 [.int .i64 (chk M a ds.length 2), .int .i64 0, .slice none 0 0] :: modH m (stoP M a ds) :: R))) := Lib.hid fun w' blk h =>
    (modDo1 ⟨4, 0, 0, a, .slice ad ds.length c, ds⟩ (.slice (some ⟨blk, 0, none⟩) 1 1) (fun w'' g => reads_op 1 5 rfl g) (.inr (.inr rfl)) ⟨ha, fun w'' g => hr _ g.drop, hl⟩ h).mono fun en w'' ⟨x, h1, h2⟩ => ⟨x.1, h1, h2.d2⟩
  have H2 : Holds e _ (modH m M :: pts (w.heap.size + 1) (.cells (OpS.cells ⟨4, 0, 0, a, .slice ad ds.length c, ds⟩).toArray 48 (0, 0)) :: R) := H1.re 3 [2, 0]
  unfold OpS.cells at H2 CD
  clear H H1 hr
  generalize stoP M a ds = M' at *
  generalize chk M a ds.length 2 = E at *
  go_enter Tryz.func124, Tryz.ntmps124
  go_wp2_with fail
  refine (CD.out _ _ H2).mono ?_
  rintro en w1 ⟨v, rfl, H3⟩
  dsimp only at *
  obtain ⟨hl, hx⟩ := row.open H3
  rcases hx with ⟨_, h0⟩ | ⟨g, cap, cur, rfl, hc1, hc2, hc3, hc4, H4⟩
  · cases h0
  have hcur : ∀ j, j < 3 → cur[j]? = [Value.int .i64 E, .int .i64 0, .slice none 0 0][j]? := fun j hj => by
    rw [← hc4, List.getElem?_take, if_pos (by omega), Array.getElem?_toList]
  have c0 : w1.cell? ⟨g, 0, none⟩ = some (.int .i64 E) := (H4.cells 0).trans (hcur 0 (by omega))
  have HH := Lib.hid H4.drop
  clear H4 H3 H2 hc1 hc2 hc3 hc4 hl hcur CD
  go_wp2_with fail
  go_ret
  exact ⟨rfl, HH.out⟩
end
end Go.Proofs.YtjbphdjheklhbaaGreat

/-
  Package cpu: instructions: May, one.
-/
namespace Go.Proofs.YtjbphdjheklhbaaGreat
open Go.RowKit

structure InsS where
  op : Int
  r : Int
  s : Int
  imm : Int
def InsS.val (x : InsS) : Value := .agg #[.int .i64 x.op, .int .i64 x.r, .int .i64 x.s, .int .i32 x.imm]
def InsS.cells (x : InsS) : List Value := [.int .i64 x.op, .int .i64 x.r, .int .i64 x.s, .int .i32 x.imm]
def mayI (x : InsS) : Bool := decide (0 ≤ x.op) && decide (x.op < 8) && decide (0 ≤ x.r) && decide (x.r < 4) && decide (0 ≤ x.s) && decide (x.s < 4)
/-- A number of 32 bits, with a sign. -/
def sgn32 (n : Nat) : Int := if n < 2147483648 then n else n - 4294967296
/-- The instruction of eight bytes. -/
def insOf (l : List UInt8) : InsS := ⟨(l.getD 0 0).toNat, (l.getD 1 0).toNat, (l.getD 2 0).toNat, sgn32 (unle ((l.drop 4).take 4))⟩
def insOk (l : List UInt8) : Bool := mayI (insOf l) && decide (l.getD 3 0 = 0)

section
variable {e : Env} {w : World} {R : List HP}
set_option maxRecDepth 100000 in
theorem cpuMay (x : InsS) (H : Holds e w R) : Calls Tryz.prog 43 #[x.val] w (Ret e (.bool (mayI x)) R) := by
  obtain ⟨op, r, s, imm⟩ := x
  have H1 := (H.alloc (.cells #[.int .i64 op, .int .i64 r, .int .i64 s, .int .i32 imm] 72)).drop
  have HH := Lib.hid H1
  clear H H1
  unfold InsS.val
  go_enter Tryz.func43, Tryz.ntmps43
  go_wp2_with fail
  all_goals go_ret
  all_goals
    refine ⟨congrArg (fun b => Ending.returned (Value.bool b)) (?_ : _ = mayI ⟨op, r, s, imm⟩), HH.out⟩
    unfold mayI
    dsimp only
    rw [Bool.eq_iff_iff]
    simp only [Bool.and_eq_true, decide_eq_true_eq, Bool.false_eq_true, false_iff]
    try omega
theorem wrap_i32 (n : Nat) (h : n < 4294967296) : IntKind.i32.wrap (n : Int) = sgn32 n := by
  unfold sgn32
  simp [IntKind.wrap, IntKind.bits, IntKind.signed]
  split <;> omega
theorem sgn32_bd (n : Nat) (h : n < 4294967296) : -2147483648 ≤ sgn32 n ∧ sgn32 n ≤ 2147483647 := by unfold sgn32; split <;> omega
set_option maxRecDepth 100000 in
set_option maxHeartbeats 2000000 in
theorem cpuOne (l : List UInt8) (hl : l.length = 8) (v : Value) (hr : ∀ w', Holds e w' R → RdB w' v l) (H : Holds e w R) :
    Calls Tryz.prog 24 #[v] w (Ret e (.tuple #[(insOf l).val, .bool (insOk l)]) R) := by
  obtain ⟨ad, c, rfl⟩ := (hr w H).shape
  have HR : Hid (∀ w', Holds e w' R → Reads w' (.slice ad 8 c) 1 8 (u8v l)) := Lib.hid fun w' h => by
    have h2 := hr w' h
    unfold RdB at h2
    rw [hl] at h2
    exact h2
  have CG : Hid (∀ w' X, (∀ w'', Holds e w'' X → Holds e w'' R) → Holds e w' X → Calls Tryz.prog 42 #[.slice ad 8 c, .int .i64 4, .int .i64 4] w' (Ret e (.tuple #[.int .u64 (unle ((l.drop 4).take 4)), .bool true]) X)) := Lib.hid fun w' X hX h => by
    have := numGet_any h 4 (by omega) (by omega) l 4 (by omega) (by omega) (.slice ad l.length c) (fun w'' g => hr w'' (hX _ g))
    rw [hl] at this
    exact this
  have hub := unle_lt ((l.drop 4).take 4)
  have hl4 : ((l.drop 4).take 4).length = 4 := by rw [List.length_take, List.length_drop, hl]; rfl
  rw [hl4] at hub
  have hub2 : unle ((l.drop 4).take 4) < 4294967296 := Nat.lt_of_lt_of_le hub (by decide)
  have hw := wrap_i32 _ hub2
  have hbd := sgn32_bd _ hub2
  have hins : insOf l = ⟨(l.getD 0 0).toNat, (l.getD 1 0).toNat, (l.getD 2 0).toNat, sgn32 (unle ((l.drop 4).take 4))⟩ := rfl
  have hok : insOk l = (mayI (insOf l) && decide ((l.getD 3 0).toNat = 0)) := by
    unfold insOk
    congr 1
    rw [Bool.eq_iff_iff]
    simp only [decide_eq_true_eq]
    constructor
    · intro h; rw [h]; rfl
    · intro h; exact UInt8.toNat_inj.1 h
  have g0 : l[0]? = some (l.getD 0 0) := get_getD (by omega)
  have g1 : l[1]? = some (l.getD 1 0) := get_getD (by omega)
  have g2 : l[2]? = some (l.getD 2 0) := get_getD (by omega)
  have g3 : l[3]? = some (l.getD 3 0) := get_getD (by omega)
  have q0 := (l.getD 0 0).toNat_lt
  have q1 := (l.getD 1 0).toNat_lt
  have q2 := (l.getD 2 0).toNat_lt
  have q3 := (l.getD 3 0).toNat_lt
  obtain ⟨g, o, rfl, _⟩ := (HR.out w H).at (by omega)
  have HB : Hid (∀ w', Holds e w' R → w'.cell? ⟨g, o + 0, none⟩ = some (.int .u8 (l.getD 0 0).toNat) ∧ w'.cell? ⟨g, o + 1, none⟩ = some (.int .u8 (l.getD 1 0).toNat) ∧ w'.cell? ⟨g, o + 2, none⟩ = some (.int .u8 (l.getD 2 0).toNat) ∧ w'.cell? ⟨g, o + 3, none⟩ = some (.int .u8 (l.getD 3 0).toNat)) := Lib.hid fun w' h => by
    obtain ⟨g', o', hg, hc⟩ := (HR.out w' h).at (by omega)
    cases hg
    exact ⟨hc 0 _ (u8v_get (by omega)), hc 1 _ (u8v_get (by omega)), hc 2 _ (u8v_get (by omega)), hc 3 _ (u8v_get (by omega))⟩
  rw [hok, hins, hl]
  generalize (l.getD 0 0).toNat = b0 at *
  generalize (l.getD 1 0).toNat = b1 at *
  generalize (l.getD 2 0).toNat = b2 at *
  generalize (l.getD 3 0).toNat = b3 at *
  generalize unle ((l.drop 4).take 4) = u at *
  have hu32 : IntKind.u32.wrap (u : Int) = u := by rw [IntKind.wrap_u32']; omega
  have hx : (sgn32 u) = (sgn32 u) := rfl
  obtain ⟨im, him⟩ : ∃ im, sgn32 u = im := ⟨_, rfl⟩
  rw [him] at hw hbd ⊢
  obtain ⟨hbd1, hbd2⟩ := hbd
  have CM := Lib.hid fun w' X (h : Holds e w' X) => cpuMay ⟨b0, b1, b2, im⟩ h
  obtain ⟨mI, hmI⟩ : ∃ mI, mayI ⟨b0, b1, b2, im⟩ = mI := ⟨_, rfl⟩
  rw [hmI] at CM ⊢
  have H1 := H.alloc (.cells #[.int .i64 0, .int .i64 0, .int .i64 0, .int .i32 0] 72)
  obtain ⟨rx, hrx⟩ : ∃ rx, w.heap.size = rx := ⟨_, rfl⟩
  rw [hrx] at H1
  clear hr hl hub hub2 hins hok g0 g1 g2 g3 hmI hx him
  unfold InsS.val at CM ⊢
  dsimp only at CM ⊢
  go_enter Tryz.func24, Tryz.ntmps24
  go_wp2_with fail
  refine (CG.out _ _ (fun _ g => g.drop) H1).mono ?_
  rintro en w1 ⟨rfl, H2⟩
  obtain ⟨k0, k1, k2, k3⟩ := HB.out _ H2.drop
  simp only [Nat.add_zero] at k0
  have hgl := World.block_lt_of_cell? _ _ k0
  have hrl := H2.lt
  clear CG H1
  go_wp2_with fail
  go_region
  have H3 := ((H2.alloc (.cells #[.int .i64 b0, .int .i64 b1, .int .i64 b2, .int .i32 im] 72))).drew
  obtain ⟨xb, hxb⟩ : ∃ xb, w1.heap.size = xb := ⟨_, rfl⟩
  rw [hxb] at H3 ⊢
  clear H2 k0 k1 k2 k3 hgl hrl
  go_wp2_with fail
  refine code_at H3 fun w3 H4 => ?_
  have HC : Hid (∀ w' : World, Holds e w' (pts xb (.cells #[.int .i64 b0, .int .i64 b1, .int .i64 b2, .int .i32 im] 72) :: pts rx (.cells #[.int .i64 0, .int .i64 0, .int .i64 0, .int .i32 0] 72) :: R) →
      (∀ j, w'.cell? ⟨xb, j, none⟩ = #[Value.int .i64 b0, .int .i64 b1, .int .i64 b2, .int .i32 im][j]?) ∧ (∀ j, w'.cell? ⟨rx, j, none⟩ = #[Value.int .i64 0, .int .i64 0, .int .i64 0, .int .i32 0][j]?) ∧ (∀ j, w'.frozen? ⟨rx, j, none⟩ = false) ∧ w'.cell? ⟨g, o + 3, none⟩ = some (.int .u8 b3)) := Lib.hid fun w' h => ⟨h.cells, h.swap.cells, h.swap.frozen, (HB.out _ h.drop.drop).2.2.2⟩
  obtain ⟨c1, c2, c3, c4⟩ := HC.out _ H4
  have hnx := H4.ne
  have hne : ¬ g = rx := by
    rintro rfl
    have h := c2 (o + 3)
    rw [c4] at h
    cases o with
    | zero => simp at h
    | succ o => rw [Array.getElem?_eq_none (by simp)] at h; cases h
  have hne' : ¬ rx = g := fun h => hne h.symm
  have hd := H4.drew
  obtain ⟨d1, d2, d3, d4⟩ := HC.out _ hd
  clear H3
  have e3 : ((b3 : Int) == 0) = decide (b3 = 0) := by rw [Bool.eq_iff_iff]; simp
  obtain ⟨z3, hz3⟩ : ∃ z3, decide (b3 = 0) = z3 := ⟨_, rfl⟩
  rw [hz3] at e3 ⊢
  have HZ := Lib.hid hz3
  clear hz3
  cases mI
  · first | go_region_with (go_at_call 43; refine (CM.out _ _ (by first | exact hd | assumption)).mono ?_; rintro e w4 ⟨rfl, HN⟩; obtain ⟨p1, p2, p3, p4⟩ := HC.out _ HN) | fail
    all_goals
      clear c1 c2 c3 c4 d1 d2 d3 d4 p1 p2 p3 p4 HC
      have H6 := (((HN.swap.set 0 (.int .i64 b0)).set 1 (.int .i64 b1)).set 2 (.int .i64 b2)).set 3 (.int .i32 im)
      go_wp2_with fail
      refine bodyPost_at H6 fun w9 H9 => ?_
      have hc9 := H9.cells
      exact bodyPost_ret (v := .tuple #[.agg #[.int .i64 b0, .int .i64 b1, .int .i64 b2, .int .i32 im], Value.bool false]) (by simp [results, Tryz.results24, go_sem, hc9]) rfl ⟨by first | (simp; done) | (simp; exact HZ.out.symm), H9.drop.drop⟩
  · first | go_region_with (go_at_call 43; refine (CM.out _ _ (by first | exact hd | assumption)).mono ?_; rintro e w4 ⟨rfl, HN⟩; obtain ⟨p1, p2, p3, p4⟩ := HC.out _ HN) | fail
    all_goals
      clear c1 c2 c3 c4 d1 d2 d3 d4 p1 p2 p3 p4 HC
      have H6 := (((HN.swap.set 0 (.int .i64 b0)).set 1 (.int .i64 b1)).set 2 (.int .i64 b2)).set 3 (.int .i32 im)
      go_wp2_with fail
      refine bodyPost_at H6 fun w9 H9 => ?_
      have hc9 := H9.cells
      exact bodyPost_ret (v := .tuple #[.agg #[.int .i64 b0, .int .i64 b1, .int .i64 b2, .int .i32 im], Value.bool z3]) (by simp [results, Tryz.results24, go_sem, hc9]) rfl ⟨by first | (simp; done) | (simp; exact HZ.out.symm), H9.drop.drop⟩
end
end Go.Proofs.YtjbphdjheklhbaaGreat

/-
  Package cpu: a model as a core: Flat, Fetch; an instruction's number as a word; a cpu's state.
-/
namespace Go.Proofs.YtjbphdjheklhbaaGreat
open Go.RowKit

/-- A model as a core. -/
def coreV (m : Nat) : Value := .iface 98 (.agg #[memV m, .pointer (some ⟨m, 0, none⟩)])
/-- A number with a sign as a word. -/
def wideN (z : Int) : Nat := (z % 18446744073709551616).toNat
theorem wideN_lt (z : Int) : wideN z < 18446744073709551616 := by unfold wideN; omega
theorem wideN_wrap (z : Int) : IntKind.u64.wrap z = (wideN z : Int) := by rw [IntKind.wrap_u64]; unfold wideN; omega

structure CpS where
  r : List Nat
  pc : Nat
  done : Nat
  halted : Bool
def CpS.cells (C : CpS) : List Value := u64v C.r ++ [.int .u64 C.pc, .int .i64 C.done, .bool C.halted]
def cpH (b : Nat) (C : CpS) : HP := pts b (.cells C.cells.toArray 68 (0, 0))
structure CpOk (C : CpS) : Prop where
  len : C.r.length = 4
  lt : ∀ x ∈ C.r, x < 18446744073709551616
  pc : C.pc < 18446744073709551616
theorem CpOk.reg {C : CpS} (h : CpOk C) (k : Nat) : C.r.getD k 0 < 18446744073709551616 := by
  by_cases hk : k < C.r.length
  · exact h.lt _ (getD_mem hk)
  · simp [List.getD, List.getElem?_eq_none (Nat.le_of_not_lt hk)]
theorem cp_reg {C : CpS} (h : C.r.length = 4) {k : Nat} (hk : k < 4) : C.cells[k]? = some (.int .u64 ((C.r.getD k 0 : Nat) : Int)) := by
  unfold CpS.cells
  rw [List.getElem?_append_left (by simp [u64v]; omega), u64v_get (by omega)]
theorem cp_pc {C : CpS} (h : C.r.length = 4) : C.cells[4]? = some (.int .u64 C.pc) := by
  unfold CpS.cells
  rw [List.getElem?_append_right (by simp [u64v]; omega)]
  simp [u64v, h]
theorem cp_done {C : CpS} (h : C.r.length = 4) : C.cells[5]? = some (.int .i64 C.done) := by
  unfold CpS.cells
  rw [List.getElem?_append_right (by simp [u64v]; omega)]
  simp [u64v, h]
theorem cp_halted {C : CpS} (h : C.r.length = 4) : C.cells[6]? = some (.bool C.halted) := by
  unfold CpS.cells
  rw [List.getElem?_append_right (by simp [u64v]; omega)]
  simp [u64v, h]
theorem cp_setR {C : CpS} (h : C.r.length = 4) {k : Nat} (hk : k < 4) (n : Nat) : C.cells.set k (.int .u64 (n : Int)) = CpS.cells ⟨C.r.set k n, C.pc, C.done, C.halted⟩ := by
  unfold CpS.cells
  rw [List.set_append_left _ _ (by simp [u64v]; omega)]
  simp [u64v, List.map_set]
theorem cp_setPc {C : CpS} (h : C.r.length = 4) (n : Nat) : C.cells.set 4 (.int .u64 (n : Int)) = CpS.cells ⟨C.r, n, C.done, C.halted⟩ := by
  unfold CpS.cells
  rw [List.set_append_right _ _ (by simp [u64v]; omega)]
  simp [u64v, h]
theorem cp_setDone {C : CpS} (h : C.r.length = 4) (n : Nat) : C.cells.set 5 (.int .i64 (n : Int)) = CpS.cells ⟨C.r, C.pc, n, C.halted⟩ := by
  unfold CpS.cells
  rw [List.set_append_right _ _ (by simp [u64v]; omega)]
  simp [u64v, h]
theorem cp_setHalted {C : CpS} (h : C.r.length = 4) (x : Bool) : C.cells.set 6 (.bool x) = CpS.cells ⟨C.r, C.pc, C.done, x⟩ := by
  unfold CpS.cells
  rw [List.set_append_right _ _ (by simp [u64v]; omega)]
  simp [u64v, h]

section
variable {e : Env} {w : World} {R : List HP} {m b : Nat} {M : List Pg} {C : CpS}
theorem cpH.set {k : Nat} {v : Value} {C' : CpS} (H : Holds e w (cpH b C :: R)) (h : C.cells.set k v = C'.cells) : Holds e (w.setCell ⟨b, k, none⟩ v) (cpH b C' :: R) := by
  have h1 := Holds.set (c := C.cells.toArray) H k v
  unfold cpH
  rw [← h]
  simpa using h1
theorem cpH.cell {k : Nat} {v : Value} (H : Holds e w (cpH b C :: R)) (h : C.cells[k]? = some v) : w.cell? ⟨b, k, none⟩ = some v := by
  have h1 := Holds.cells (c := C.cells.toArray) H k
  rw [h1]
  simpa using h
theorem cpH.frozen {k : Nat} (H : Holds e w (cpH b C :: R)) : w.frozen? ⟨b, k, none⟩ = false := Holds.frozen (c := C.cells.toArray) H k
theorem cpuFlat : Calls Tryz.prog 21 #[.pointer (some ⟨m, 0, none⟩)] w (Quiet w (coreV m)) := by
  have CF := Lib.hid fun w' => hpFlat (w := w') (m := m)
  unfold memV at CF
  go_enter Tryz.func21, Tryz.ntmps21
  go_wp2_with fail
  refine (CF.out _).mono ?_
  rintro en w1 ⟨rfl, q, rfl⟩
  go_wp2_with fail
  go_ret
  exact ⟨rfl, _, rfl⟩
set_option maxRecDepth 100000 in
set_option maxHeartbeats 1000000 in
theorem cpuFetch {a : Nat} (ha : a < 18446744073709551616) (n : Int) (hn0 : -9223372036854775808 ≤ n) (hn1 : n ≤ 9223372036854775807) (H : Holds e w (modH m M :: R)) :
    Calls Tryz.prog 122 #[.agg #[memV m, .pointer (some ⟨m, 0, none⟩)], .int .u64 a, .int .i64 n] w
      (RetEx e (fun d : Value => .tuple #[d, .int .i64 (chk M a n 4)]) (fun d => bts d (rdE M a n 4) :: modH m M :: R)) := by
  have H1 := (H.alloc (.cells #[memV m, .pointer (some ⟨m, 0, none⟩)] 98)).alloc (.cells (OpS.cells ⟨5, 0, n, a, .slice none 0 0, []⟩).toArray 48)
  rw [World.size_alloc] at H1
  have CD : Hid (∀ w' blk, Holds e w' (modH m M :: pts blk (.cells (OpS.cells ⟨5, 0, n, a, .slice none 0 0, []⟩).toArray 48 (0, 0)) :: R) → Calls Tryz.prog 15 #[.pointer (some ⟨m, 0, none⟩), .slice (some ⟨blk, 0, none⟩) 1 1] w'
      (RetEx e (fun x : Value × Value => x.1) (fun x => row x.1 50 3 1 [.int .i64 (chk M a n 4), .int .i64 0, x.2] :: bts x.2 (rdE M a n 4) :: modH m M :: R))) := Lib.hid fun w' blk h =>
    (modDo1R ⟨5, 0, n, a, .slice none 0 0, []⟩ 4 (.inr ⟨rfl, rfl⟩) hn0 hn1 (.slice (some ⟨blk, 0, none⟩) 1 1) (fun w'' g => reads_op 1 5 rfl g) ⟨ha, fun w'' _ => reads_none _ _, by simp⟩ h).mono fun en w'' ⟨x, h1, h2⟩ => ⟨x, h1, h2.d3⟩
  have H2 : Holds e _ (modH m M :: pts (w.heap.size + 1) (.cells (OpS.cells ⟨5, 0, n, a, .slice none 0 0, []⟩).toArray 48 (0, 0)) :: R) := H1.re 3 [2, 0]
  unfold OpS.cells memV at H2
  unfold OpS.cells at CD
  clear H H1
  generalize rdE M a n 4 = out at *
  generalize chk M a n 4 = E at *
  unfold memV
  go_enter Tryz.func122, Tryz.ntmps122
  go_wp2_with fail
  refine (CD.out _ _ H2).mono ?_
  rintro en w1 ⟨⟨v, d⟩, rfl, H3⟩
  dsimp only at *
  obtain ⟨hl, hx⟩ := row.open H3
  rcases hx with ⟨_, h0⟩ | ⟨g, cap, cur, rfl, hc1, hc2, hc3, hc4, H4⟩
  · cases h0
  obtain ⟨av, cv, hdv⟩ := (bts.reads H4.swap).shape
  obtain ⟨lv, hlv⟩ : ∃ lv, out.length = lv := ⟨_, rfl⟩
  rw [hlv] at hdv
  subst hdv
  have hcur : ∀ j, j < 3 → cur[j]? = [Value.int .i64 E, .int .i64 0, .slice av lv cv][j]? := fun j hj => by
    rw [← hc4, List.getElem?_take, if_pos (by omega), Array.getElem?_toList]
  have c0 : w1.cell? ⟨g, 0, none⟩ = some (.int .i64 E) := (H4.cells 0).trans (hcur 0 (by omega))
  have c1 : w1.cell? ⟨g, 1, none⟩ = some (.int .i64 0) := (H4.cells 1).trans (hcur 1 (by omega))
  have c2 : w1.cell? ⟨g, 2, none⟩ = some (.slice av lv cv) := (H4.cells 2).trans (hcur 2 (by omega))
  have HH := Lib.hid H4.drop
  clear H4 H3 H2 hc1 hc2 hc3 hc4 hl hcur hlv CD
  go_wp2_with fail
  go_quiet (fail)
  go_wp2_with fail
  go_ret2
  exact ⟨.slice av lv cv, rfl, (HH.out.alloc _).drop.drewN _⟩

set_option maxRecDepth 100000 in
theorem cpuWide (x : InsS) (h0 : -2147483648 ≤ x.imm) (h1 : x.imm ≤ 2147483647) (H : Holds e w R) : Calls Tryz.prog 69 #[x.val] w (Ret e (.int .u64 (wideN x.imm)) R) := by
  obtain ⟨op, r, s, imm⟩ := x
  have H1 := (H.alloc (.cells #[.int .i64 op, .int .i64 r, .int .i64 s, .int .i32 imm] 72)).drop
  have HH := Lib.hid H1
  dsimp only at h0 h1
  have hw := wideN_wrap imm
  clear H H1
  unfold InsS.val
  dsimp only
  go_enter Tryz.func69, Tryz.ntmps69
  go_wp2_with fail
  go_ret
  exact ⟨rfl, HH.out⟩
end
end Go.Proofs.YtjbphdjheklhbaaGreat

/-
  A region that draws its order, whose operations read (and whose calls keep the assertions), but for the last one, which waits for all others: one walk in the order of the text. No program in sight.
-/
namespace Go.Proofs.YtjbphdjheklhbaaGreat
open Go.RowKit

/-- The last operation waits for all others; each waits for such as stand ahead of it. -/
def lastB (md : Region.Mode) (ops : Array Oper) (n : Nat) : Bool :=
  decide (ops.size = n + 1) && Region.noSelect ops && Region.lexFrom md ops n 0 ((Array.replicate (n + 1) false).setIfInBounds n true) &&
  ((List.range (n + 1)).all fun i => match ops[i]? with
    | some o => o.after.all fun e => !Region.binds md e || decide (e.on < i)
    | none => true) &&
  (List.range n).all fun j => (List.range (n + 1)).any fun k => match ops[k]? with
    | some o => o.after.any fun e => Region.binds md e && (e.on == j)
    | none => false

section
variable {P : Program} {ops : Array Oper} {md : Region.Mode} {C : World → Prop}
theorem ready_some {n : Nat} (hsz : ops.size = n + 1) (hed : ∀ (i : Nat) (o : Oper), ops[i]? = some o → ∀ e ∈ o.after, Region.binds md e = true → e.on < i) {listed : Array Bool} (hl : listed.size = n + 1) (hun : listed.getD n true = false) : Region.ready md ops listed ≠ [] := by
  have key : ∀ k, k ≤ n + 1 → (∀ j, j < k → listed.getD j true = true) ∨ ∃ i, i ∈ Region.ready md ops listed := by
    intro k
    induction k with
    | zero => intro _; exact .inl fun j hj => by omega
    | succ k ih =>
      intro hk
      rcases ih (by omega) with h | h
      · by_cases hkl : listed.getD k true = true
        · refine .inl fun j hj => ?_
          rcases Nat.lt_succ_iff_lt_or_eq.1 hj with h' | rfl
          · exact h j h'
          · exact hkl
        · obtain ⟨o, ho⟩ : ∃ o, ops[k]? = some o := ⟨_, Array.getElem?_eq_getElem (by omega)⟩
          refine .inr ⟨k, mem_ready.2 ⟨by simpa using hkl, o, ho, fun e he hb => ?_⟩⟩
          have h1 := hed k o ho e he hb
          have h2 := h e.on h1
          have h3 : e.on < listed.size := by omega
          simp [h3] at h2 ⊢
          exact h2
      · exact .inr h
  intro h0
  rcases key (n + 1) (Nat.le_refl _) with h | ⟨i, hi⟩
  · rw [h n (by omega)] at hun; cases hun
  · rw [h0] at hi; cases hi
/-- Whatever has come up, all that it waits for has. -/
def Down (md : Region.Mode) (ops : Array Oper) (listed : Array Bool) (n : Nat) : Prop := ∀ (j : Nat) (o : Oper), j < n → listed.getD j false = true → ops[j]? = some o → ∀ e ∈ o.after, Region.binds md e = true → listed.getD e.on false = true
theorem ready_none {n : Nat} (hsz : ops.size = n + 1) (hed : ∀ (i : Nat) (o : Oper), ops[i]? = some o → ∀ e ∈ o.after, Region.binds md e = true → e.on < i) (hlast : ∀ j, j < n → ∃ (k : Nat) (o : Oper), ops[k]? = some o ∧ ∃ e ∈ o.after, Region.binds md e = true ∧ e.on = j) {listed : Array Bool} (hl : listed.size = n + 1) (hd : Down md ops listed n) (hn : n ∈ Region.ready md ops listed) : Region.ready md ops (listed.setIfInBounds n true) = [] := by
  obtain ⟨_, s, hs, hall⟩ := mem_ready.1 hn
  have key : ∀ d j, j < n → n - j ≤ d → listed.getD j false = true := by
    intro d
    induction d with
    | zero => intro j hj hd; omega
    | succ d ih =>
      intro j hj hdj
      obtain ⟨k, o, ho, e, he, hb, hej⟩ := hlast j hj
      have h1 := hed k o ho e he hb
      have hk := (Array.getElem?_eq_some_iff.1 ho).1
      by_cases hkn : k = n
      · subst hkn
        rw [hs] at ho
        cases ho
        have := hall e he hb
        rwa [hej] at this
      · have := hd k o (by omega) (ih k (by omega) (by omega)) ho e he hb
        rwa [hej] at this
  rw [List.eq_nil_iff_forall_not_mem]
  intro j hj
  obtain ⟨h0, o, ho, _⟩ := mem_ready.1 hj
  have hjl := (Array.getElem?_eq_some_iff.1 ho).1
  by_cases hjn : n = j
  · subst hjn
    simp [hl] at h0
  · rw [Go.getD_set_ne true hjn] at h0
    have h1 := key n j (by omega) (by omega)
    have h3 : j < listed.size := by omega
    simp [h3] at h0 h1
    rw [h0] at h1
    cases h1
theorem Down.step {n i : Nat} {listed : Array Bool} (hd : Down md ops listed n) (hi : i ∈ Region.ready md ops listed) : Down md ops (listed.setIfInBounds i true) n := by
  intro j o hj hjl ho e he hb
  refine getD_set_true ?_
  by_cases hij : i = j
  · subst hij
    obtain ⟨_, o', ho', hall⟩ := mem_ready.1 hi
    rw [ho] at ho'
    cases ho'
    exact hall e he hb
  · rw [Go.getD_set_ne false hij] at hjl
    exact hd j o hj hjl ho e he hb
theorem wpAny_last {n : Nat} {Q0 : Act → Prop} {Q : Exit → Act → World → Prop} (hsz : ops.size = n + 1) (hed : ∀ (i : Nat) (o : Oper), ops[i]? = some o → ∀ e ∈ o.after, Region.binds md e = true → e.on < i)
    (hlast : ∀ j, j < n → ∃ (k : Nat) (o : Oper), ops[k]? = some o ∧ ∃ e ∈ o.after, Region.binds md e = true ∧ e.on = j) (hQ : ∀ a w, C w → Q0 a → wpOp P ops Q n (fun a w => Q .normal a w) a w) :
    ∀ (fuel : Nat) (listed : Array Bool) (a : Act) (w : World), listed.size = n + 1 → Down md ops listed n → listed.getD n true = false → C w → wpAnyQ P md ops C Q0 fuel (listed.setIfInBounds n true) a → wpAny P md ops Q (fuel + 1) listed a w := by
  intro fuel
  induction fuel with
  | zero =>
    intro listed a w hl hdn hun hC h
    refine ⟨fun h0 => absurd h0 (ready_some hsz hed hl hun), fun i hi => ?_⟩
    by_cases hin : i = n
    · subst hin
      have hr := ready_none hsz hed hlast hl hdn hi
      exact wpOp_mono (fun a w hq => ⟨hr, hq⟩) (hQ a w hC h.2)
    · have := ready_mono hi hin
      rw [h.1] at this
      cases this
  | succ fuel ih =>
    intro listed a w hl hdn hun hC h
    refine ⟨fun h0 => absurd h0 (ready_some hsz hed hl hun), fun i hi => ?_⟩
    by_cases hin : i = n
    · subst hin
      have hr := ready_none hsz hed hlast hl hdn hi
      exact wpOp_mono (fun a w hq => ⟨fun _ => hq, fun j hj => by rw [hr] at hj; cases hj⟩) (hQ a w hC (h.1 hr))
    · refine wpOp_of_qOp hC (fun a' w' hw' hk => ih (listed.setIfInBounds i true) a' w' (by simpa using hl) (hdn.step hi) ?_ hw' ?_) (h.2 i (ready_mono hi hin))
      · rw [Go.getD_set_ne true hin]; exact hun
      · rw [Array.setIfInBounds_comm _ _ hin]
        exact hk
theorem wpAnyQ_lexPre {Q : Act → Prop} (hs : Region.noSelect ops = true) : ∀ (l : List Oper) (k : Nat) (listed : Array Bool) (a : Act), (∀ j, j < l.length → l[j]? = ops[k + j]?) →
    Region.lexFrom md ops l.length k listed = true → wpQuiet P ops C Q l a → wpAnyQ P md ops C Q l.length listed a
  | [], _, _, _, _, hB, h => ⟨by simpa [Region.lexFrom] using hB, h⟩
  | o :: l, k, listed, a, hl, hB, h => by
    have h0 : ops[k]? = some o := by simpa using (hl 0 (by simp)).symm
    simp only [List.length_cons, Region.lexFrom, Bool.and_eq_true] at hB
    obtain ⟨⟨hr, hf⟩, hB'⟩ := hB
    have hst : qOp P ops C k (wpQuiet P ops C Q l) a := by unfold qOp; simp only [h0]; exact h
    obtain ⟨v, hy, hK⟩ := yieldsIn_of_qOp h0 hst
    exact wpAnyQ_first h0 (Region.noSelect_spec hs) l.length listed a (Region.free_spec h0 hf) (by simpa using hr) hy
      (wpAnyQ_lexPre hs l (k + 1) _ _ (fun j hj => by have := hl (j + 1) (by simp; omega); simpa [Nat.add_assoc, Nat.add_comm 1 j] using this) hB' hK)
end

theorem wp_region_last {P : Program} {C : World → Prop} {id : Nat} {Q : Exit → Act → World → Prop} {a : Act} {w : World} {l : List Oper} {s : Oper} (hs : l.getLast? = some s) (hm : P.follows .mixedOrders = true) (hB : lastB .any l.toArray (l.length - 1) = true) (hg : s.guard = none)
    (hC : C { w with drawn := w.drawn + 1 })
    (h : wpQuiet P l.toArray C (fun a' => ∀ w', C w' → s.wp P a' w' (fun a w => Q .normal a w) Q) l.dropLast a) : (Code.region id l.toArray true).wp P Q a w := by
  have hl : l = l.dropLast ++ [s] := by
    rw [List.getLast?_eq_some_iff] at hs
    obtain ⟨ys, rfl⟩ := hs
    simp
  have hlen : l.length = l.dropLast.length + 1 := by
    have := congrArg List.length hl
    rw [List.length_append, List.length_singleton] at this
    exact this
  have hne : l.length - 1 = l.dropLast.length := by omega
  rw [hne] at hB
  generalize hp : l.dropLast = pre at *
  unfold lastB at hB
  simp only [Bool.and_eq_true, decide_eq_true_eq] at hB
  obtain ⟨⟨⟨⟨b1, b2⟩, b3⟩, b4⟩, b5⟩ := hB
  have hsn : l.toArray[pre.length]? = some s := by
    rw [hl]; simp
  refine wp_region_any hm ?_
  have hsz2 : l.toArray.size = pre.length + 1 := b1
  rw [hsz2]
  refine wpAny_last (C := C) (Q0 := fun a' => ∀ w', C w' → s.wp P a' w' (fun a w => Q .normal a w) Q) b1 ?_ ?_ ?_ pre.length _ a _ (by simp) (fun j o hj hjl => by simp [show j < pre.length + 1 by omega] at hjl) (by simp) hC ?_
  · intro i o ho e he hb
    have hi : i < pre.length + 1 := by have := (Array.getElem?_eq_some_iff.1 ho).1; omega
    have h1 := List.all_eq_true.1 b4 i (List.mem_range.2 hi)
    rw [ho] at h1
    dsimp only at h1
    have h2 := Array.all_eq_true_iff_forall_mem.1 h1 e he
    simpa [hb] using h2
  · intro j hj
    have h1 := List.all_eq_true.1 b5 j (List.mem_range.2 hj)
    obtain ⟨k, _, h2⟩ := List.any_eq_true.1 h1
    cases hk : l.toArray[k]? with
    | none => rw [hk] at h2; cases h2
    | some o =>
      rw [hk] at h2
      dsimp only at h2
      obtain ⟨i, hi, h3⟩ := Array.any_eq_true.1 h2
      simp only [Bool.and_eq_true, beq_iff_eq] at h3
      exact ⟨k, o, hk, _, Array.getElem_mem hi, h3.1, h3.2⟩
  · intro a' w' hw' hq
    unfold wpOp
    rw [hsn]
    dsimp only
    have hw : Region.wanted s (yielded l.toArray a'.tmps) = true := by simp [Region.wanted, hg]
    rw [if_pos hw]
    exact .inl (hq w' hw')
  · exact wpAnyQ_lexPre b2 pre 0 _ a (fun j hj => by rw [hl]; simp [List.getElem?_append_left hj]) b3 h
end Go.Proofs.YtjbphdjheklhbaaGreat

/-
  Package cpu: the instructions that touch no memory.
-/
namespace Go.Proofs.YtjbphdjheklhbaaGreat
open Go.RowKit

/- By Int: what a + 2^64 comes to is never unrolled. -/
def sub64 (a b : Nat) : Nat := (((a : Int) - (b : Int)) % 18446744073709551616).toNat
def add64 (a b : Nat) : Nat := (a + b) % 18446744073709551616
def mul64 (a b : Nat) : Nat := (a * b) % 18446744073709551616
theorem mul64_lt (a b : Nat) : mul64 a b < 18446744073709551616 := by unfold mul64; omega
theorem mul64_wrap (a b : Nat) : IntKind.u64.wrap ((a : Int) * (b : Int)) = (mul64 a b : Int) := by
  rw [IntKind.wrap_u64]; unfold mul64
  have : (a : Int) * (b : Int) = ((a * b : Nat) : Int) := by simp
  rw [this]; omega
theorem sub64_lt (a b : Nat) : sub64 a b < 18446744073709551616 := by unfold sub64; omega
theorem add64_lt (a b : Nat) : add64 a b < 18446744073709551616 := by unfold add64; omega
theorem sub64_wrap {a b : Nat} (_hb : b < 18446744073709551616) : IntKind.u64.wrap ((a : Int) - (b : Int)) = (sub64 a b : Int) := by rw [IntKind.wrap_u64]; unfold sub64; omega
theorem add64_wrap (a b : Nat) : IntKind.u64.wrap ((a : Int) + (b : Int)) = (add64 a b : Int) := by rw [IntKind.wrap_u64]; unfold add64; omega

section
variable {e : Env} {w : World} {R : List HP} {m b : Nat} {M : List Pg} {C : CpS} {op kr ks : Nat} {imm : Int} {mv : Value}
set_option maxRecDepth 100000 in
set_option maxHeartbeats 1000000 in
theorem cpuSet (hC : CpOk C) (hr : kr < 4) (hs : ks < 4) (hi0 : -2147483648 ≤ imm) (hi1 : imm ≤ 2147483647) (H : Holds e w (cpH b C :: R)) :
    Calls Tryz.prog 45 #[.pointer (some ⟨b, 0, none⟩), mv, InsS.val ⟨op, kr, ks, imm⟩] w (Ret e (.int .i64 0) (cpH b ⟨C.r.set kr (wideN imm), C.pc, C.done, C.halted⟩ :: R)) := by
  obtain ⟨xb, hxb⟩ : ∃ xb, w.heap.size = xb := ⟨_, rfl⟩
  have H1 := H.alloc (.cells #[.int .i64 op, .int .i64 kr, .int .i64 ks, .int .i32 imm] 72)
  rw [hxb] at H1
  have CW := Lib.hid fun w' X (h' : Holds e w' X) => cpuWide ⟨op, kr, ks, imm⟩ hi0 hi1 h'
  unfold InsS.val at CW ⊢
  dsimp only at CW ⊢
  have hW64 := wideN_lt imm
  have hrk := hC.reg kr
  have hrs := hC.reg ks
  have hpc64 := hC.pc
  obtain ⟨r, pc, dn, hd⟩ := C
  have HK : Hid (∀ w' X, Holds e w' (pts xb (.cells #[.int .i64 op, .int .i64 kr, .int .i64 ks, .int .i32 imm] 72 (0, 0)) :: cpH b ⟨r, pc, dn, hd⟩ :: X) → (∀ j, (w').cell? ⟨xb, j, none⟩ = #[Value.int .i64 op, .int .i64 kr, .int .i64 ks, .int .i32 imm][j]?) ∧ (w').cell? ⟨b, kr, none⟩ = some (.int .u64 (r.getD kr 0 : Nat)) ∧ (w').cell? ⟨b, ks, none⟩ = some (.int .u64 (r.getD ks 0 : Nat)) ∧ (w').cell? ⟨b, 4, none⟩ = some (.int .u64 (pc : Nat)) ∧ (w').cell? ⟨b, 6, none⟩ = some (.bool hd) ∧ (∀ j, (w').frozen? ⟨b, j, none⟩ = false) ∧ b ≠ xb) := Lib.hid fun w' X h' => ⟨h'.cells, cpH.cell h'.swap (cp_reg hC.len hr), cpH.cell h'.swap (cp_reg hC.len hs), cpH.cell h'.swap (cp_pc hC.len), cpH.cell h'.swap (cp_halted hC.len), fun j => cpH.frozen h'.swap, fun hq => Holds.ne (o' := .cells (CpS.cells ⟨r, pc, dn, hd⟩).toArray 68 (0, 0)) h' hq.symm⟩
  have HL := Lib.hid hC.len
  generalize wideN imm = W at *
  dsimp only at *
  generalize r.getD kr 0 = rk at *
  generalize r.getD ks 0 = rs at *
  have krI : (kr : Int) < 4 := by omega
  have krI0 : (0 : Int) ≤ (kr : Int) := by omega
  have ksI : (ks : Int) < 4 := by omega
  have ksI0 : (0 : Int) ≤ (ks : Int) := by omega
  have HF : Hid (∀ w', Holds e w' (pts xb (.cells #[.int .i64 op, .int .i64 kr, .int .i64 ks, .int .i32 imm] 72 (0, 0)) :: cpH b ⟨r, pc, dn, hd⟩ :: R) → Holds e (w'.setCell ⟨b, kr, none⟩ (.int .u64 W)) (cpH b ⟨r.set kr W, pc, dn, hd⟩ :: R)) := Lib.hid fun w' h' => cpH.set h'.drop (cp_setR HL.out hr W)
  clear hi0 hi1 H hC
  go_enter Tryz.func45, Tryz.ntmps45
  go_wp2_with fail
  obtain ⟨I, Wf, hI, hW, hWs⟩ := worlds_of H1
  have r1 : ∀ i j, (Wf i).cell? ⟨xb, j, none⟩ = #[Value.int .i64 op, .int .i64 kr, .int .i64 ks, .int .i32 imm][j]? := fun i => (HK.out _ _ (hW i)).1
  have r2 := fun i => (HK.out _ _ (hW i)).2.1
  have r3 := fun i => (HK.out _ _ (hW i)).2.2.1
  have r4 := fun i => (HK.out _ _ (hW i)).2.2.2.1
  have r5 : ∀ i j, (Wf i).frozen? ⟨b, j, none⟩ = false := fun i => (HK.out _ _ (hW i)).2.2.2.2.2.1
  refine wp_region_last (C := fun w' => ∃ i, w' = Wf i) rfl (by kernel_rfl) (by kernel_rfl) rfl (hWs _ (H1.drawn _)) ?_
  simp only [List.dropLast]
  (repeat (go_big_quiet_step ((go_at_call 69; exact quietH (CW.out _ _ (hW _)) hWs)))); refine wpQuiet_nil ?_; intro _ hw'; obtain ⟨nq, hw''⟩ := hw'; subst hw''
  unfold Oper.wp
  go_simp
  have HN := hW nq
  generalize Wf nq = w4 at *
  clear r1 r2 r3 r4 r5 hW hWs CW
  go_wp2_with fail
  go_ret
  exact ⟨rfl, HF.out _ HN⟩
set_option maxRecDepth 100000 in
set_option maxHeartbeats 1000000 in
theorem cpuAdd (hC : CpOk C) (hr : kr < 4) (hs : ks < 4) (hi0 : -2147483648 ≤ imm) (hi1 : imm ≤ 2147483647) (H : Holds e w (cpH b C :: R)) :
    Calls Tryz.prog 46 #[.pointer (some ⟨b, 0, none⟩), mv, InsS.val ⟨op, kr, ks, imm⟩] w (Ret e (.int .i64 0) (cpH b ⟨C.r.set kr (add64 (C.r.getD kr 0) (add64 (C.r.getD ks 0) (wideN imm))), C.pc, C.done, C.halted⟩ :: R)) := by
  obtain ⟨xb, hxb⟩ : ∃ xb, w.heap.size = xb := ⟨_, rfl⟩
  have H1 := H.alloc (.cells #[.int .i64 op, .int .i64 kr, .int .i64 ks, .int .i32 imm] 72)
  rw [hxb] at H1
  have CW := Lib.hid fun w' X (h' : Holds e w' X) => cpuWide ⟨op, kr, ks, imm⟩ hi0 hi1 h'
  unfold InsS.val at CW ⊢
  dsimp only at CW ⊢
  have hW64 := wideN_lt imm
  have hrk := hC.reg kr
  have hrs := hC.reg ks
  have hpc64 := hC.pc
  obtain ⟨r, pc, dn, hd⟩ := C
  have HK : Hid (∀ w' X, Holds e w' (pts xb (.cells #[.int .i64 op, .int .i64 kr, .int .i64 ks, .int .i32 imm] 72 (0, 0)) :: cpH b ⟨r, pc, dn, hd⟩ :: X) → (∀ j, (w').cell? ⟨xb, j, none⟩ = #[Value.int .i64 op, .int .i64 kr, .int .i64 ks, .int .i32 imm][j]?) ∧ (w').cell? ⟨b, kr, none⟩ = some (.int .u64 (r.getD kr 0 : Nat)) ∧ (w').cell? ⟨b, ks, none⟩ = some (.int .u64 (r.getD ks 0 : Nat)) ∧ (w').cell? ⟨b, 4, none⟩ = some (.int .u64 (pc : Nat)) ∧ (w').cell? ⟨b, 6, none⟩ = some (.bool hd) ∧ (∀ j, (w').frozen? ⟨b, j, none⟩ = false) ∧ b ≠ xb) := Lib.hid fun w' X h' => ⟨h'.cells, cpH.cell h'.swap (cp_reg hC.len hr), cpH.cell h'.swap (cp_reg hC.len hs), cpH.cell h'.swap (cp_pc hC.len), cpH.cell h'.swap (cp_halted hC.len), fun j => cpH.frozen h'.swap, fun hq => Holds.ne (o' := .cells (CpS.cells ⟨r, pc, dn, hd⟩).toArray 68 (0, 0)) h' hq.symm⟩
  have HL := Lib.hid hC.len
  generalize wideN imm = W at *
  dsimp only at *
  generalize r.getD kr 0 = rk at *
  generalize r.getD ks 0 = rs at *
  have krI : (kr : Int) < 4 := by omega
  have krI0 : (0 : Int) ≤ (kr : Int) := by omega
  have ksI : (ks : Int) < 4 := by omega
  have ksI0 : (0 : Int) ≤ (ks : Int) := by omega
  have hw1 := add64_wrap rs W
  have hx1 := add64_lt rs W
  generalize add64 rs W = t1 at *
  have hw2 := add64_wrap rk t1
  have hx2 := add64_lt rk t1
  generalize add64 rk t1 = t2 at *
  have HF : Hid (∀ w', Holds e w' (pts xb (.cells #[.int .i64 op, .int .i64 kr, .int .i64 ks, .int .i32 imm] 72 (0, 0)) :: cpH b ⟨r, pc, dn, hd⟩ :: R) → Holds e (w'.setCell ⟨b, kr, none⟩ (.int .u64 t2)) (cpH b ⟨r.set kr t2, pc, dn, hd⟩ :: R)) := Lib.hid fun w' h' => cpH.set h'.drop (cp_setR HL.out hr t2)
  clear hi0 hi1 H hC
  go_enter Tryz.func46, Tryz.ntmps46
  go_wp2_with fail
  obtain ⟨I, Wf, hI, hW, hWs⟩ := worlds_of H1
  have r1 : ∀ i j, (Wf i).cell? ⟨xb, j, none⟩ = #[Value.int .i64 op, .int .i64 kr, .int .i64 ks, .int .i32 imm][j]? := fun i => (HK.out _ _ (hW i)).1
  have r2 := fun i => (HK.out _ _ (hW i)).2.1
  have r3 := fun i => (HK.out _ _ (hW i)).2.2.1
  have r4 := fun i => (HK.out _ _ (hW i)).2.2.2.1
  have r5 : ∀ i j, (Wf i).frozen? ⟨b, j, none⟩ = false := fun i => (HK.out _ _ (hW i)).2.2.2.2.2.1
  refine wp_region_last (C := fun w' => ∃ i, w' = Wf i) rfl (by kernel_rfl) (by kernel_rfl) rfl (hWs _ (H1.drawn _)) ?_
  simp only [List.dropLast]
  (repeat (go_big_quiet_step ((go_at_call 69; exact quietH (CW.out _ _ (hW _)) hWs)))); refine wpQuiet_nil ?_; intro _ hw'; obtain ⟨nq, hw''⟩ := hw'; subst hw''
  unfold Oper.wp
  go_simp
  have HN := hW nq
  generalize Wf nq = w4 at *
  clear r1 r2 r3 r4 r5 hW hWs CW
  go_wp2_with fail
  go_ret
  exact ⟨rfl, HF.out _ HN⟩
set_option maxRecDepth 100000 in
set_option maxHeartbeats 1000000 in
theorem cpuSub (hC : CpOk C) (hr : kr < 4) (hs : ks < 4) (hi0 : -2147483648 ≤ imm) (hi1 : imm ≤ 2147483647) (H : Holds e w (cpH b C :: R)) :
    Calls Tryz.prog 47 #[.pointer (some ⟨b, 0, none⟩), mv, InsS.val ⟨op, kr, ks, imm⟩] w (Ret e (.int .i64 0) (cpH b ⟨C.r.set kr (sub64 (C.r.getD kr 0) (C.r.getD ks 0)), C.pc, C.done, C.halted⟩ :: R)) := by
  obtain ⟨xb, hxb⟩ : ∃ xb, w.heap.size = xb := ⟨_, rfl⟩
  have H1 := H.alloc (.cells #[.int .i64 op, .int .i64 kr, .int .i64 ks, .int .i32 imm] 72)
  rw [hxb] at H1
  have CW := Lib.hid fun w' X (h' : Holds e w' X) => cpuWide ⟨op, kr, ks, imm⟩ hi0 hi1 h'
  unfold InsS.val at CW ⊢
  dsimp only at CW ⊢
  have hW64 := wideN_lt imm
  have hrk := hC.reg kr
  have hrs := hC.reg ks
  have hpc64 := hC.pc
  obtain ⟨r, pc, dn, hd⟩ := C
  have HK : Hid (∀ w' X, Holds e w' (pts xb (.cells #[.int .i64 op, .int .i64 kr, .int .i64 ks, .int .i32 imm] 72 (0, 0)) :: cpH b ⟨r, pc, dn, hd⟩ :: X) → (∀ j, (w').cell? ⟨xb, j, none⟩ = #[Value.int .i64 op, .int .i64 kr, .int .i64 ks, .int .i32 imm][j]?) ∧ (w').cell? ⟨b, kr, none⟩ = some (.int .u64 (r.getD kr 0 : Nat)) ∧ (w').cell? ⟨b, ks, none⟩ = some (.int .u64 (r.getD ks 0 : Nat)) ∧ (w').cell? ⟨b, 4, none⟩ = some (.int .u64 (pc : Nat)) ∧ (w').cell? ⟨b, 6, none⟩ = some (.bool hd) ∧ (∀ j, (w').frozen? ⟨b, j, none⟩ = false) ∧ b ≠ xb) := Lib.hid fun w' X h' => ⟨h'.cells, cpH.cell h'.swap (cp_reg hC.len hr), cpH.cell h'.swap (cp_reg hC.len hs), cpH.cell h'.swap (cp_pc hC.len), cpH.cell h'.swap (cp_halted hC.len), fun j => cpH.frozen h'.swap, fun hq => Holds.ne (o' := .cells (CpS.cells ⟨r, pc, dn, hd⟩).toArray 68 (0, 0)) h' hq.symm⟩
  have HL := Lib.hid hC.len
  generalize wideN imm = W at *
  dsimp only at *
  generalize r.getD kr 0 = rk at *
  generalize r.getD ks 0 = rs at *
  have krI : (kr : Int) < 4 := by omega
  have krI0 : (0 : Int) ≤ (kr : Int) := by omega
  have ksI : (ks : Int) < 4 := by omega
  have ksI0 : (0 : Int) ≤ (ks : Int) := by omega
  have hw1 := sub64_wrap (a := rk) hrs
  have hx1 := sub64_lt rk rs
  generalize sub64 rk rs = t2 at *
  have HF : Hid (∀ w', Holds e w' (pts xb (.cells #[.int .i64 op, .int .i64 kr, .int .i64 ks, .int .i32 imm] 72 (0, 0)) :: cpH b ⟨r, pc, dn, hd⟩ :: R) → Holds e (w'.setCell ⟨b, kr, none⟩ (.int .u64 t2)) (cpH b ⟨r.set kr t2, pc, dn, hd⟩ :: R)) := Lib.hid fun w' h' => cpH.set h'.drop (cp_setR HL.out hr t2)
  clear hi0 hi1 H hC
  go_enter Tryz.func47, Tryz.ntmps47
  go_wp2_with fail
  obtain ⟨I, Wf, hI, hW, hWs⟩ := worlds_of H1
  have r1 : ∀ i j, (Wf i).cell? ⟨xb, j, none⟩ = #[Value.int .i64 op, .int .i64 kr, .int .i64 ks, .int .i32 imm][j]? := fun i => (HK.out _ _ (hW i)).1
  have r2 := fun i => (HK.out _ _ (hW i)).2.1
  have r3 := fun i => (HK.out _ _ (hW i)).2.2.1
  have r4 := fun i => (HK.out _ _ (hW i)).2.2.2.1
  have r5 : ∀ i j, (Wf i).frozen? ⟨b, j, none⟩ = false := fun i => (HK.out _ _ (hW i)).2.2.2.2.2.1
  refine wp_region_last (C := fun w' => ∃ i, w' = Wf i) rfl (by kernel_rfl) (by kernel_rfl) rfl (hWs _ (H1.drawn _)) ?_
  simp only [List.dropLast]
  (repeat (go_big_quiet_step ((go_at_call 69; exact quietH (CW.out _ _ (hW _)) hWs)))); refine wpQuiet_nil ?_; intro _ hw'; obtain ⟨nq, hw''⟩ := hw'; subst hw''
  unfold Oper.wp
  go_simp
  have HN := hW nq
  generalize Wf nq = w4 at *
  clear r1 r2 r3 r4 r5 hW hWs CW
  go_wp2_with fail
  go_ret
  exact ⟨rfl, HF.out _ HN⟩
set_option maxRecDepth 100000 in
set_option maxHeartbeats 1000000 in
theorem cpuXor (hC : CpOk C) (hr : kr < 4) (hs : ks < 4) (hi0 : -2147483648 ≤ imm) (hi1 : imm ≤ 2147483647) (H : Holds e w (cpH b C :: R)) :
    Calls Tryz.prog 51 #[.pointer (some ⟨b, 0, none⟩), mv, InsS.val ⟨op, kr, ks, imm⟩] w (Ret e (.int .i64 0) (cpH b ⟨C.r.set kr (C.r.getD kr 0 ^^^ C.r.getD ks 0), C.pc, C.done, C.halted⟩ :: R)) := by
  obtain ⟨xb, hxb⟩ : ∃ xb, w.heap.size = xb := ⟨_, rfl⟩
  have H1 := H.alloc (.cells #[.int .i64 op, .int .i64 kr, .int .i64 ks, .int .i32 imm] 72)
  rw [hxb] at H1
  have CW := Lib.hid fun w' X (h' : Holds e w' X) => cpuWide ⟨op, kr, ks, imm⟩ hi0 hi1 h'
  unfold InsS.val at CW ⊢
  dsimp only at CW ⊢
  have hW64 := wideN_lt imm
  have hrk := hC.reg kr
  have hrs := hC.reg ks
  have hpc64 := hC.pc
  obtain ⟨r, pc, dn, hd⟩ := C
  have HK : Hid (∀ w' X, Holds e w' (pts xb (.cells #[.int .i64 op, .int .i64 kr, .int .i64 ks, .int .i32 imm] 72 (0, 0)) :: cpH b ⟨r, pc, dn, hd⟩ :: X) → (∀ j, (w').cell? ⟨xb, j, none⟩ = #[Value.int .i64 op, .int .i64 kr, .int .i64 ks, .int .i32 imm][j]?) ∧ (w').cell? ⟨b, kr, none⟩ = some (.int .u64 (r.getD kr 0 : Nat)) ∧ (w').cell? ⟨b, ks, none⟩ = some (.int .u64 (r.getD ks 0 : Nat)) ∧ (w').cell? ⟨b, 4, none⟩ = some (.int .u64 (pc : Nat)) ∧ (w').cell? ⟨b, 6, none⟩ = some (.bool hd) ∧ (∀ j, (w').frozen? ⟨b, j, none⟩ = false) ∧ b ≠ xb) := Lib.hid fun w' X h' => ⟨h'.cells, cpH.cell h'.swap (cp_reg hC.len hr), cpH.cell h'.swap (cp_reg hC.len hs), cpH.cell h'.swap (cp_pc hC.len), cpH.cell h'.swap (cp_halted hC.len), fun j => cpH.frozen h'.swap, fun hq => Holds.ne (o' := .cells (CpS.cells ⟨r, pc, dn, hd⟩).toArray 68 (0, 0)) h' hq.symm⟩
  have HL := Lib.hid hC.len
  generalize wideN imm = W at *
  dsimp only at *
  generalize r.getD kr 0 = rk at *
  generalize r.getD ks 0 = rs at *
  have krI : (kr : Int) < 4 := by omega
  have krI0 : (0 : Int) ≤ (kr : Int) := by omega
  have ksI : (ks : Int) < 4 := by omega
  have ksI0 : (0 : Int) ≤ (ks : Int) := by omega
  have hw1 := u64_xor_nat rk rs hrk hrs
  have hx1 : rk ^^^ rs < 18446744073709551616 := Nat.xor_lt_two_pow (n := 64) hrk hrs
  generalize rk ^^^ rs = t2 at *
  have HF : Hid (∀ w', Holds e w' (pts xb (.cells #[.int .i64 op, .int .i64 kr, .int .i64 ks, .int .i32 imm] 72 (0, 0)) :: cpH b ⟨r, pc, dn, hd⟩ :: R) → Holds e (w'.setCell ⟨b, kr, none⟩ (.int .u64 t2)) (cpH b ⟨r.set kr t2, pc, dn, hd⟩ :: R)) := Lib.hid fun w' h' => cpH.set h'.drop (cp_setR HL.out hr t2)
  clear hi0 hi1 H hC
  go_enter Tryz.func51, Tryz.ntmps51
  go_wp2_with fail
  obtain ⟨I, Wf, hI, hW, hWs⟩ := worlds_of H1
  have r1 : ∀ i j, (Wf i).cell? ⟨xb, j, none⟩ = #[Value.int .i64 op, .int .i64 kr, .int .i64 ks, .int .i32 imm][j]? := fun i => (HK.out _ _ (hW i)).1
  have r2 := fun i => (HK.out _ _ (hW i)).2.1
  have r3 := fun i => (HK.out _ _ (hW i)).2.2.1
  have r4 := fun i => (HK.out _ _ (hW i)).2.2.2.1
  have r5 : ∀ i j, (Wf i).frozen? ⟨b, j, none⟩ = false := fun i => (HK.out _ _ (hW i)).2.2.2.2.2.1
  refine wp_region_last (C := fun w' => ∃ i, w' = Wf i) rfl (by kernel_rfl) (by kernel_rfl) rfl (hWs _ (H1.drawn _)) ?_
  simp only [List.dropLast]
  (repeat (go_big_quiet_step ((go_at_call 69; exact quietH (CW.out _ _ (hW _)) hWs)))); refine wpQuiet_nil ?_; intro _ hw'; obtain ⟨nq, hw''⟩ := hw'; subst hw''
  unfold Oper.wp
  go_simp
  have HN := hW nq
  generalize Wf nq = w4 at *
  clear r1 r2 r3 r4 r5 hW hWs CW
  go_wp2_with fail
  go_ret
  exact ⟨rfl, HF.out _ HN⟩
set_option maxRecDepth 100000 in
set_option maxHeartbeats 1000000 in
theorem cpuHalt (hC : CpOk C) (hr : kr < 4) (hs : ks < 4) (hi0 : -2147483648 ≤ imm) (hi1 : imm ≤ 2147483647) (H : Holds e w (cpH b C :: R)) :
    Calls Tryz.prog 44 #[.pointer (some ⟨b, 0, none⟩), mv, InsS.val ⟨op, kr, ks, imm⟩] w (Ret e (.int .i64 0) (cpH b ⟨C.r, sub64 C.pc 8, C.done, true⟩ :: R)) := by
  obtain ⟨xb, hxb⟩ : ∃ xb, w.heap.size = xb := ⟨_, rfl⟩
  have H1 := H.alloc (.cells #[.int .i64 op, .int .i64 kr, .int .i64 ks, .int .i32 imm] 72)
  rw [hxb] at H1
  have CW := Lib.hid fun w' X (h' : Holds e w' X) => cpuWide ⟨op, kr, ks, imm⟩ hi0 hi1 h'
  unfold InsS.val at CW ⊢
  dsimp only at CW ⊢
  have hW64 := wideN_lt imm
  have hrk := hC.reg kr
  have hrs := hC.reg ks
  have hpc64 := hC.pc
  obtain ⟨r, pc, dn, hd⟩ := C
  have HK : Hid (∀ w' X, Holds e w' (pts xb (.cells #[.int .i64 op, .int .i64 kr, .int .i64 ks, .int .i32 imm] 72 (0, 0)) :: cpH b ⟨r, pc, dn, hd⟩ :: X) → (∀ j, (w').cell? ⟨xb, j, none⟩ = #[Value.int .i64 op, .int .i64 kr, .int .i64 ks, .int .i32 imm][j]?) ∧ (w').cell? ⟨b, kr, none⟩ = some (.int .u64 (r.getD kr 0 : Nat)) ∧ (w').cell? ⟨b, ks, none⟩ = some (.int .u64 (r.getD ks 0 : Nat)) ∧ (w').cell? ⟨b, 4, none⟩ = some (.int .u64 (pc : Nat)) ∧ (w').cell? ⟨b, 6, none⟩ = some (.bool hd) ∧ (∀ j, (w').frozen? ⟨b, j, none⟩ = false) ∧ b ≠ xb) := Lib.hid fun w' X h' => ⟨h'.cells, cpH.cell h'.swap (cp_reg hC.len hr), cpH.cell h'.swap (cp_reg hC.len hs), cpH.cell h'.swap (cp_pc hC.len), cpH.cell h'.swap (cp_halted hC.len), fun j => cpH.frozen h'.swap, fun hq => Holds.ne (o' := .cells (CpS.cells ⟨r, pc, dn, hd⟩).toArray 68 (0, 0)) h' hq.symm⟩
  have HL := Lib.hid hC.len
  generalize wideN imm = W at *
  dsimp only at *
  generalize r.getD kr 0 = rk at *
  generalize r.getD ks 0 = rs at *
  have krI : (kr : Int) < 4 := by omega
  have krI0 : (0 : Int) ≤ (kr : Int) := by omega
  have ksI : (ks : Int) < 4 := by omega
  have ksI0 : (0 : Int) ≤ (ks : Int) := by omega
  have hw1 : IntKind.u64.wrap ((pc : Int) - 8) = (sub64 pc 8 : Int) := sub64_wrap (a := pc) (b := 8) (by decide)
  have hx1 := sub64_lt pc 8
  generalize sub64 pc 8 = t2 at *
  have HF : Hid (∀ w', Holds e w' (pts xb (.cells #[.int .i64 op, .int .i64 kr, .int .i64 ks, .int .i32 imm] 72 (0, 0)) :: cpH b ⟨r, pc, dn, hd⟩ :: R) → Holds e ((w'.setCell ⟨b, 6, none⟩ (.bool true)).setCell ⟨b, 4, none⟩ (.int .u64 t2)) (cpH b ⟨r, t2, dn, true⟩ :: R)) := Lib.hid fun w' h' => cpH.set (cpH.set h'.drop (cp_setHalted (C := ⟨r, pc, dn, hd⟩) HL.out true)) (cp_setPc (C := ⟨r, pc, dn, true⟩) HL.out t2)
  obtain ⟨k1, k2, k3, k4, k5, k6, k7⟩ := HK.out _ _ H1
  clear hi0 hi1 hC
  go_enter Tryz.func44, Tryz.ntmps44
  go_wp2_with fail
  go_ret
  exact ⟨rfl, HF.out _ H1⟩
set_option maxRecDepth 100000 in
set_option maxHeartbeats 1000000 in
theorem cpuJump (hC : CpOk C) (hr : kr < 4) (hs : ks < 4) (hi0 : -2147483648 ≤ imm) (hi1 : imm ≤ 2147483647) (H : Holds e w (cpH b C :: R)) :
    Calls Tryz.prog 50 #[.pointer (some ⟨b, 0, none⟩), mv, InsS.val ⟨op, kr, ks, imm⟩] w (Ret e (.int .i64 0) (cpH b ⟨C.r, if C.r.getD kr 0 = 0 then C.pc else add64 C.pc (mul64 8 (sub64 (wideN imm) 1)), C.done, C.halted⟩ :: R)) := by
  obtain ⟨xb, hxb⟩ : ∃ xb, w.heap.size = xb := ⟨_, rfl⟩
  have H1 := H.alloc (.cells #[.int .i64 op, .int .i64 kr, .int .i64 ks, .int .i32 imm] 72)
  rw [hxb] at H1
  have CW := Lib.hid fun w' X (h' : Holds e w' X) => cpuWide ⟨op, kr, ks, imm⟩ hi0 hi1 h'
  unfold InsS.val at CW ⊢
  dsimp only at CW ⊢
  have hW64 := wideN_lt imm
  have hrk := hC.reg kr
  have hrs := hC.reg ks
  have hpc64 := hC.pc
  obtain ⟨r, pc, dn, hd⟩ := C
  have HK : Hid (∀ w' X, Holds e w' (pts xb (.cells #[.int .i64 op, .int .i64 kr, .int .i64 ks, .int .i32 imm] 72 (0, 0)) :: cpH b ⟨r, pc, dn, hd⟩ :: X) → (∀ j, (w').cell? ⟨xb, j, none⟩ = #[Value.int .i64 op, .int .i64 kr, .int .i64 ks, .int .i32 imm][j]?) ∧ (w').cell? ⟨b, kr, none⟩ = some (.int .u64 (r.getD kr 0 : Nat)) ∧ (w').cell? ⟨b, ks, none⟩ = some (.int .u64 (r.getD ks 0 : Nat)) ∧ (w').cell? ⟨b, 4, none⟩ = some (.int .u64 (pc : Nat)) ∧ (w').cell? ⟨b, 6, none⟩ = some (.bool hd) ∧ (∀ j, (w').frozen? ⟨b, j, none⟩ = false) ∧ b ≠ xb) := Lib.hid fun w' X h' => ⟨h'.cells, cpH.cell h'.swap (cp_reg hC.len hr), cpH.cell h'.swap (cp_reg hC.len hs), cpH.cell h'.swap (cp_pc hC.len), cpH.cell h'.swap (cp_halted hC.len), fun j => cpH.frozen h'.swap, fun hq => Holds.ne (o' := .cells (CpS.cells ⟨r, pc, dn, hd⟩).toArray 68 (0, 0)) h' hq.symm⟩
  have HL := Lib.hid hC.len
  generalize wideN imm = W at *
  dsimp only at *
  generalize r.getD kr 0 = rk at *
  generalize r.getD ks 0 = rs at *
  have krI : (kr : Int) < 4 := by omega
  have krI0 : (0 : Int) ≤ (kr : Int) := by omega
  have ksI : (ks : Int) < 4 := by omega
  have ksI0 : (0 : Int) ≤ (ks : Int) := by omega
  have hw1 : IntKind.u64.wrap ((W : Int) - 1) = (sub64 W 1 : Int) := sub64_wrap (a := W) (b := 1) (by decide)
  have hx1 := sub64_lt W 1
  generalize sub64 W 1 = t1 at *
  have hw2 : IntKind.u64.wrap ((8 : Int) * (t1 : Int)) = (mul64 8 t1 : Int) := mul64_wrap 8 t1
  have hx2 := mul64_lt 8 t1
  generalize mul64 8 t1 = t2 at *
  have hw3 := add64_wrap pc t2
  have hx3 := add64_lt pc t2
  generalize add64 pc t2 = t3 at *
  have HF : Hid (∀ w', Holds e w' (pts xb (.cells #[.int .i64 op, .int .i64 kr, .int .i64 ks, .int .i32 imm] 72 (0, 0)) :: cpH b ⟨r, pc, dn, hd⟩ :: R) → Holds e (w'.setCell ⟨b, 4, none⟩ (.int .u64 t3)) (cpH b ⟨r, t3, dn, hd⟩ :: R)) := Lib.hid fun w' h' => cpH.set h'.drop (cp_setPc (C := ⟨r, pc, dn, hd⟩) HL.out t3)
  obtain ⟨np, hnp⟩ : ∃ np, (if rk = 0 then pc else t3) = np := ⟨_, rfl⟩
  rw [hnp]
  have HNP := Lib.hid hnp
  clear hi0 hi1 H hC hnp
  go_enter Tryz.func50, Tryz.ntmps50
  go_wp2_with fail
  obtain ⟨I, Wf, hI, hW, hWs⟩ := worlds_of H1
  have r1 : ∀ i j, (Wf i).cell? ⟨xb, j, none⟩ = #[Value.int .i64 op, .int .i64 kr, .int .i64 ks, .int .i32 imm][j]? := fun i => (HK.out _ _ (hW i)).1
  have r2 := fun i => (HK.out _ _ (hW i)).2.1
  refine wp_region_holds hWs H1 (by kernel_rfl) (by kernel_rfl) ?_
  (repeat (go_big_quiet_step (fail))); refine wpQuiet_nil ?_; intro _ hw'; obtain ⟨nq, hw''⟩ := hw'; subst hw''
  have H2 := hW nq
  generalize Wf nq = w4 at *
  clear r1 r2 hW hWs H1
  by_cases h0 : rk = 0
  · have d0 : ((rk : Int) != 0) = false := by simp [h0]
    have HH := Lib.hid H2.drop
    obtain rfl : pc = np := by have h := HNP.out; rwa [if_pos h0] at h
    clear H2 h0
    go_wp2_with fail
    go_ret
    exact ⟨rfl, HH.out⟩
  · have d0 : ((rk : Int) != 0) = true := by simp; omega
    have H1 := H2
    obtain rfl : t3 = np := by have h := HNP.out; rwa [if_neg h0] at h
    clear h0 H2
    go_wp2_with fail
    obtain ⟨I, Wf, hI, hW, hWs⟩ := worlds_of H1
    have r1 : ∀ i j, (Wf i).cell? ⟨xb, j, none⟩ = #[Value.int .i64 op, .int .i64 kr, .int .i64 ks, .int .i32 imm][j]? := fun i => (HK.out _ _ (hW i)).1
    have r2 := fun i => (HK.out _ _ (hW i)).2.1
    have r3 := fun i => (HK.out _ _ (hW i)).2.2.1
    have r4 := fun i => (HK.out _ _ (hW i)).2.2.2.1
    have r5 : ∀ i j, (Wf i).frozen? ⟨b, j, none⟩ = false := fun i => (HK.out _ _ (hW i)).2.2.2.2.2.1
    refine wp_region_last (C := fun w' => ∃ i, w' = Wf i) rfl (by kernel_rfl) (by kernel_rfl) rfl (hWs _ (H1.drawn _)) ?_
    simp only [List.dropLast]
    (repeat (go_big_quiet_step ((go_at_call 69; exact quietH (CW.out _ _ (hW _)) hWs)))); refine wpQuiet_nil ?_; intro _ hw'; obtain ⟨nq, hw''⟩ := hw'; subst hw''
    unfold Oper.wp
    go_simp
    have HN := hW nq
    generalize Wf nq = w4 at *
    clear r1 r2 r3 r4 r5 hW hWs CW
    go_wp2_with fail
    go_ret
    exact ⟨rfl, HF.out _ HN⟩
end
end Go.Proofs.YtjbphdjheklhbaaGreat

/-
  Package cpu: load and store.
-/
namespace Go.Proofs.YtjbphdjheklhbaaGreat
open Go.RowKit

/-- A register behind a load. -/
def ldC (C : CpS) (kr E n : Nat) : CpS := if E = 0 then ⟨C.r.set kr n, C.pc, C.done, C.halted⟩ else C
theorem rdE_zero {M : List Pg} {a u : Nat} {n : Int} (h : chk M a n u = 0) : rdE M a n u = rdb M a n.toNat := by unfold rdE; rw [if_pos h]

section
variable {e : Env} {w : World} {R : List HP} {m b : Nat} {M : List Pg} {C : CpS} {op kr ks : Nat} {imm : Int}
theorem core_load (w : World) : (method 279 98 (.agg #[memV m, .pointer (some ⟨m, 0, none⟩)]) "Load").run Tryz.prog w = .ok (123, .agg #[.pointer (some ⟨m, 0, none⟩)]) w := by kernel_rfl
theorem core_store (w : World) : (method 279 98 (.agg #[memV m, .pointer (some ⟨m, 0, none⟩)]) "Store").run Tryz.prog w = .ok (124, .agg #[.pointer (some ⟨m, 0, none⟩)]) w := by kernel_rfl
theorem core_fetch (w : World) : (method 279 98 (.agg #[memV m, .pointer (some ⟨m, 0, none⟩)]) "Fetch").run Tryz.prog w = .ok (122, .agg #[memV m, .pointer (some ⟨m, 0, none⟩)]) w := by kernel_rfl
theorem nil_load (w : World) : (nilAhead 279 98 (.agg #[memV m, .pointer (some ⟨m, 0, none⟩)]) "Load").run Tryz.prog w = .ok (some false) w := by kernel_rfl
theorem nil_store (w : World) : (nilAhead 279 98 (.agg #[memV m, .pointer (some ⟨m, 0, none⟩)]) "Store").run Tryz.prog w = .ok (some false) w := by kernel_rfl
theorem nil_fetch (w : World) : (nilAhead 279 98 (.agg #[memV m, .pointer (some ⟨m, 0, none⟩)]) "Fetch").run Tryz.prog w = .ok (some false) w := by kernel_rfl

set_option maxRecDepth 100000 in
set_option maxHeartbeats 2000000 in
theorem cpuLoad (hC : CpOk C) (hr : kr < 4) (hs : ks < 4) (hi0 : -2147483648 ≤ imm) (hi1 : imm ≤ 2147483647) (H : Holds e w (cpH b C :: modH m M :: R)) :
    Calls Tryz.prog 48 #[.pointer (some ⟨b, 0, none⟩), coreV m, InsS.val ⟨op, kr, ks, imm⟩] w
      (Ret e (.int .i64 (chk M (add64 (C.r.getD ks 0) (wideN imm)) 8 1)) (cpH b (ldC C kr (chk M (add64 (C.r.getD ks 0) (wideN imm)) 8 1) (unle (rdb M (add64 (C.r.getD ks 0) (wideN imm)) 8))) :: modH m M :: R)) := by
  obtain ⟨xb, hxb⟩ : ∃ xb, w.heap.size = xb := ⟨_, rfl⟩
  have H1 := H.alloc (.cells #[.int .i64 op, .int .i64 kr, .int .i64 ks, .int .i32 imm] 72)
  rw [hxb] at H1
  have CW := Lib.hid fun w' X (h' : Holds e w' X) => cpuWide ⟨op, kr, ks, imm⟩ hi0 hi1 h'
  unfold InsS.val at CW ⊢
  dsimp only at CW ⊢
  have hW64 := wideN_lt imm
  have hrk := hC.reg kr
  have hrs := hC.reg ks
  have hpc64 := hC.pc
  obtain ⟨r, pc, dn, hd⟩ := C
  have HK : Hid (∀ w' X, Holds e w' (pts xb (.cells #[.int .i64 op, .int .i64 kr, .int .i64 ks, .int .i32 imm] 72 (0, 0)) :: cpH b ⟨r, pc, dn, hd⟩ :: X) → (∀ j, (w').cell? ⟨xb, j, none⟩ = #[Value.int .i64 op, .int .i64 kr, .int .i64 ks, .int .i32 imm][j]?) ∧ (w').cell? ⟨b, kr, none⟩ = some (.int .u64 (r.getD kr 0 : Nat)) ∧ (w').cell? ⟨b, ks, none⟩ = some (.int .u64 (r.getD ks 0 : Nat)) ∧ (w').cell? ⟨b, 4, none⟩ = some (.int .u64 (pc : Nat)) ∧ (w').cell? ⟨b, 6, none⟩ = some (.bool hd) ∧ (∀ j, (w').frozen? ⟨b, j, none⟩ = false) ∧ b ≠ xb) := Lib.hid fun w' X h' => ⟨h'.cells, cpH.cell h'.swap (cp_reg hC.len hr), cpH.cell h'.swap (cp_reg hC.len hs), cpH.cell h'.swap (cp_pc hC.len), cpH.cell h'.swap (cp_halted hC.len), fun j => cpH.frozen h'.swap, fun hq => Holds.ne (o' := .cells (CpS.cells ⟨r, pc, dn, hd⟩).toArray 68 (0, 0)) h' hq.symm⟩
  have HL := Lib.hid hC.len
  generalize wideN imm = W at *
  dsimp only at *
  generalize r.getD kr 0 = rk at *
  generalize r.getD ks 0 = rs at *
  have krI : (kr : Int) < 4 := by omega
  have krI0 : (0 : Int) ≤ (kr : Int) := by omega
  have ksI : (ks : Int) < 4 := by omega
  have ksI0 : (0 : Int) ≤ (ks : Int) := by omega
  have hw1 := add64_wrap rs W
  have hx1 := add64_lt rs W
  generalize add64 rs W = a at *
  have hme := fun w => core_load (m := m) w
  have hnl := fun w => nil_load (m := m) w
  have LD : Hid (∀ w' X, Holds e w' (pts xb (.cells #[.int .i64 op, .int .i64 kr, .int .i64 ks, .int .i32 imm] 72 (0, 0)) :: cpH b ⟨r, pc, dn, hd⟩ :: modH m M :: X) → Calls Tryz.prog 123 #[.agg #[.pointer (some ⟨m, 0, none⟩)], .int .u64 a, .int .i64 8] w'
      (RetEx e (fun d : Value => .tuple #[d, .int .i64 (chk M a 8 1)]) (fun d => pts xb (.cells #[.int .i64 op, .int .i64 kr, .int .i64 ks, .int .i32 imm] 72 (0, 0)) :: cpH b ⟨r, pc, dn, hd⟩ :: bts d (rdE M a 8 1) :: modH m M :: X))) := Lib.hid fun w' X h' =>
    (flatLoad (m := m) (M := M) (a := a) hx1 8 (by omega) (by omega) (h'.re 3 [2, 0, 1])).mono fun en w'' ⟨d, h1, h2⟩ => ⟨d, h1, h2.re 4 [2, 3, 0, 1]⟩
  obtain ⟨E, hE⟩ : ∃ E, chk M a 8 1 = E := ⟨_, rfl⟩
  have HE := Lib.hid hE
  rw [hE] at LD ⊢
  obtain ⟨C', hC'⟩ : ∃ C', ldC ⟨r, pc, dn, hd⟩ kr E (unle (rdb M a 8)) = C' := ⟨_, rfl⟩
  have HC' := Lib.hid hC'
  rw [hC']
  unfold coreV memV at *
  clear hi0 hi1 H hC hE hC'
  go_enter Tryz.func48, Tryz.ntmps48
  go_wp2_with fail
  refine code_at H1 fun w2 H2 => ?_
  have hdr := H2.drew
  obtain ⟨k1, k2, k3, k4, k5, k6, k7⟩ := HK.out _ _ H2
  go_region_held3 (fun w' => (∀ j, (w').cell? ⟨xb, j, none⟩ = #[Value.int .i64 op, .int .i64 kr, .int .i64 ks, .int .i32 imm][j]?) ∧ (w').cell? ⟨b, kr, none⟩ = some (.int .u64 (rk : Nat)) ∧ (w').cell? ⟨b, ks, none⟩ = some (.int .u64 (rs : Nat)) ∧ (w').cell? ⟨b, 4, none⟩ = some (.int .u64 (pc : Nat)) ∧ (w').cell? ⟨b, 6, none⟩ = some (.bool hd) ∧ (∀ j, (w').frozen? ⟨b, j, none⟩ = false) ∧ b ≠ xb)
    (first | exact HK.out _ _ (by assumption))
    (first
      | (go_at_call 69; refine (CW.out _ _ (by assumption)).mono ?_; rintro e w4 ⟨rfl, HN⟩)
      | (go_at_call 123; refine (LD.out _ _ (by assumption)).mono ?_; rintro e w4 ⟨d, rfl, HN⟩))
  all_goals
    clear k1 k2 k3 k4 k5 k6 H2 hdr H1 hme hnl LD CW
    by_cases h0 : E = 0
    · have d0 : ((E : Int) == 0) = true := by simp [h0]
      have hE0 : chk M a 8 1 = 0 := HE.out.trans h0
      rw [rdE_zero hE0] at HN
      have CG : Hid (∀ w' X, Holds e w' (pts xb (.cells #[.int .i64 op, .int .i64 kr, .int .i64 ks, .int .i32 imm] 72 (0, 0)) :: cpH b ⟨r, pc, dn, hd⟩ :: bts d (rdb M a 8) :: X) → Calls Tryz.prog 42 #[d, .int .i64 0, .int .i64 8] w' (Ret e (.tuple #[.int .u64 (unle (rdb M a 8)), .bool true]) (pts xb (.cells #[.int .i64 op, .int .i64 kr, .int .i64 ks, .int .i32 imm] 72 (0, 0)) :: cpH b ⟨r, pc, dn, hd⟩ :: bts d (rdb M a 8) :: X))) := Lib.hid fun w' X h' => by
        have h1 := numGet_any h' 8 (by omega) (by omega) (rdb M a 8) 0 (by rw [rdb_length]; omega) (by rw [rdb_length]; omega) d (fun w'' g => bts.reads (g.re 3 [2]))
        rw [List.drop_zero, List.take_of_length_le (by rw [rdb_length]; omega)] at h1
        exact h1
      have hx2 := unle_lt (rdb M a 8)
      rw [rdb_length] at hx2
      have hx3 : unle (rdb M a 8) < 18446744073709551616 := hx2
      have hCC : C' = ⟨r.set kr (unle (rdb M a 8)), pc, dn, hd⟩ := by rw [← HC'.out]; unfold ldC; rw [if_pos h0]
      generalize unle (rdb M a 8) = n at *
      subst hCC
      have HF : Hid (∀ w', Holds e w' (pts xb (.cells #[.int .i64 op, .int .i64 kr, .int .i64 ks, .int .i32 imm] 72 (0, 0)) :: cpH b ⟨r, pc, dn, hd⟩ :: bts d (rdb M a 8) :: modH m M :: R) → Holds e (w'.setCell ⟨b, kr, none⟩ (.int .u64 n)) (cpH b ⟨r.set kr n, pc, dn, hd⟩ :: modH m M :: R)) := Lib.hid fun w' h' => (cpH.set h'.drop (cp_setR HL.out hr n)).re 3 [0, 2]
      go_wp2_with fail
      refine code_at HN fun w3 H3 => ?_
      have H3d := H3.drew
      obtain ⟨k1, k2, k3, k4, k5, k6, k7⟩ := HK.out _ _ H3
      obtain ⟨j1, j2, j3, j4, j5, j6, j7⟩ := HK.out _ _ H3d
      clear HN
      first | go_region_with (go_at_call 42; refine (CG.out _ _ (by assumption)).mono ?_; rintro e w5 ⟨rfl, HN2⟩; obtain ⟨g1, g2, g3, g4, g5, g6, g7⟩ := HK.out _ _ HN2) | fail
      all_goals
        clear CG H3 H3d
        go_wp2_with fail
        go_ret
        exact ⟨by rw [h0]; rfl, HF.out _ HN2⟩
    · have d0 : ((E : Int) == 0) = false := by simp; omega
      have hCC : C' = ⟨r, pc, dn, hd⟩ := by rw [← HC'.out]; unfold ldC; rw [if_neg h0]
      have HH := Lib.hid (HN.re 4 [1, 3])
      subst hCC
      clear HN
      go_wp2_with fail
      go_ret
      exact ⟨rfl, HH.out⟩
end
end Go.Proofs.YtjbphdjheklhbaaGreat

/-
  Package cpu: store; which instruction is done.
-/
namespace Go.Proofs.YtjbphdjheklhbaaGreat
open Go.RowKit

section
variable {e : Env} {w : World} {R : List HP} {m b : Nat} {M : List Pg} {C : CpS} {op kr ks : Nat} {imm : Int}

set_option maxRecDepth 100000 in
set_option maxHeartbeats 2000000 in
theorem cpuStore (hC : CpOk C) (hr : kr < 4) (hs : ks < 4) (hi0 : -2147483648 ≤ imm) (hi1 : imm ≤ 2147483647) (H : Holds e w (cpH b C :: modH m M :: R)) :
    Calls Tryz.prog 49 #[.pointer (some ⟨b, 0, none⟩), coreV m, InsS.val ⟨op, kr, ks, imm⟩] w
      (Ret e (.int .i64 (chk M (add64 (C.r.getD ks 0) (wideN imm)) 8 2)) (cpH b C :: modH m (stoP M (add64 (C.r.getD ks 0) (wideN imm)) (le 8 (C.r.getD kr 0))) :: R)) := by
  obtain ⟨xb, hxb⟩ : ∃ xb, w.heap.size = xb := ⟨_, rfl⟩
  have H1 := H.alloc (.cells #[.int .i64 op, .int .i64 kr, .int .i64 ks, .int .i32 imm] 72)
  rw [hxb] at H1
  have CW := Lib.hid fun w' X (h' : Holds e w' X) => cpuWide ⟨op, kr, ks, imm⟩ hi0 hi1 h'
  unfold InsS.val at CW ⊢
  dsimp only at CW ⊢
  have hW64 := wideN_lt imm
  have hrk := hC.reg kr
  have hrs := hC.reg ks
  have hpc64 := hC.pc
  obtain ⟨r, pc, dn, hd⟩ := C
  have HK : Hid (∀ w' X, Holds e w' (pts xb (.cells #[.int .i64 op, .int .i64 kr, .int .i64 ks, .int .i32 imm] 72 (0, 0)) :: cpH b ⟨r, pc, dn, hd⟩ :: X) → (∀ j, (w').cell? ⟨xb, j, none⟩ = #[Value.int .i64 op, .int .i64 kr, .int .i64 ks, .int .i32 imm][j]?) ∧ (w').cell? ⟨b, kr, none⟩ = some (.int .u64 (r.getD kr 0 : Nat)) ∧ (w').cell? ⟨b, ks, none⟩ = some (.int .u64 (r.getD ks 0 : Nat)) ∧ (w').cell? ⟨b, 4, none⟩ = some (.int .u64 (pc : Nat)) ∧ (w').cell? ⟨b, 6, none⟩ = some (.bool hd) ∧ (∀ j, (w').frozen? ⟨b, j, none⟩ = false) ∧ b ≠ xb) := Lib.hid fun w' X h' => ⟨h'.cells, cpH.cell h'.swap (cp_reg hC.len hr), cpH.cell h'.swap (cp_reg hC.len hs), cpH.cell h'.swap (cp_pc hC.len), cpH.cell h'.swap (cp_halted hC.len), fun j => cpH.frozen h'.swap, fun hq => Holds.ne (o' := .cells (CpS.cells ⟨r, pc, dn, hd⟩).toArray 68 (0, 0)) h' hq.symm⟩
  have HL := Lib.hid hC.len
  generalize wideN imm = W at *
  dsimp only at *
  generalize r.getD kr 0 = rk at *
  generalize r.getD ks 0 = rs at *
  have krI : (kr : Int) < 4 := by omega
  have krI0 : (0 : Int) ≤ (kr : Int) := by omega
  have ksI : (ks : Int) < 4 := by omega
  have ksI0 : (0 : Int) ≤ (ks : Int) := by omega
  have hw1 := add64_wrap rs W
  have hx1 := add64_lt rs W
  generalize add64 rs W = a at *
  have hme := fun w => core_store (m := m) w
  have hnl := fun w => nil_store (m := m) w
  have HP : Hid (∀ w' blk X, Holds e w' (pts blk (.cells #[.int .u64 rk] 22 (0, 0)) :: pts xb (.cells #[.int .i64 op, .int .i64 kr, .int .i64 ks, .int .i32 imm] 72 (0, 0)) :: cpH b ⟨r, pc, dn, hd⟩ :: X) → Calls Tryz.prog 52 #[.int .i64 8, .slice (some ⟨blk, 0, none⟩) 1 1] w' (RetEx e (fun v : Value => v) (fun v => pts xb (.cells #[.int .i64 op, .int .i64 kr, .int .i64 ks, .int .i32 imm] 72 (0, 0)) :: cpH b ⟨r, pc, dn, hd⟩ :: bts v (le 8 rk) :: X))) := Lib.hid fun w' blk X h' => by
    have := numPut_any h' 8 (by omega) (by omega) [rk] (by simp) (.slice (some ⟨blk, 0, none⟩) 1 1) (fun w' h'' => ⟨rfl, .inr ⟨_, _, rfl, Nat.le_refl _, fun j u hj => by rw [Addr.add_at, Nat.zero_add, h''.cells]; simpa [u64v] using hj⟩⟩)
    exact (this.mono fun en w'' ⟨v, h1, h2⟩ => ⟨v, h1, by
      have h3 : Holds e w'' (bts v (le 8 rk) :: pts blk (.cells #[.int .u64 rk] 22 (0, 0)) :: pts xb (.cells #[.int .i64 op, .int .i64 kr, .int .i64 ks, .int .i32 imm] 72 (0, 0)) :: cpH b ⟨r, pc, dn, hd⟩ :: X) := by simpa using h2
      exact h3.re 4 [2, 3, 0]⟩)
  have HS : Hid (∀ w' v X, Holds e w' (pts xb (.cells #[.int .i64 op, .int .i64 kr, .int .i64 ks, .int .i32 imm] 72 (0, 0)) :: cpH b ⟨r, pc, dn, hd⟩ :: bts v (le 8 rk) :: modH m M :: X) → Calls Tryz.prog 124 #[.agg #[.pointer (some ⟨m, 0, none⟩)], .int .u64 a, v] w'
      (Ret e (.int .i64 (chk M a 8 2)) (pts xb (.cells #[.int .i64 op, .int .i64 kr, .int .i64 ks, .int .i32 imm] 72 (0, 0)) :: cpH b ⟨r, pc, dn, hd⟩ :: modH m (stoP M a (le 8 rk)) :: X))) := Lib.hid fun w' v X h' => by
    have := flatStore (m := m) (M := M) (a := a) hx1 (d := v) (ds := le 8 rk) (R := pts xb (.cells #[.int .i64 op, .int .i64 kr, .int .i64 ks, .int .i32 imm] 72 (0, 0)) :: cpH b ⟨r, pc, dn, hd⟩ :: bts v (le 8 rk) :: X) (fun w'' g => bts.reads (g.re 3 [2])) (by rw [le_length]; omega) (h'.re 4 [3, 0, 1, 2])
    rw [le_length] at this
    exact retC this fun w'' g => g.re 4 [1, 2, 0]
  generalize chk M a 8 2 = E at *
  generalize stoP M a (le 8 rk) = M' at *
  unfold coreV memV at *
  clear hi0 hi1 H hC
  go_enter Tryz.func49, Tryz.ntmps49
  go_wp2_with fail
  refine code_at H1 fun w2 H2 => ?_
  have hdr := H2.drew
  obtain ⟨k1, k2, k3, k4, k5, k6, k7⟩ := HK.out _ _ H2
  go_region_held3 (fun w' => (∀ j, (w').cell? ⟨xb, j, none⟩ = #[Value.int .i64 op, .int .i64 kr, .int .i64 ks, .int .i32 imm][j]?) ∧ (w').cell? ⟨b, kr, none⟩ = some (.int .u64 (rk : Nat)) ∧ (w').cell? ⟨b, ks, none⟩ = some (.int .u64 (rs : Nat)) ∧ (w').cell? ⟨b, 4, none⟩ = some (.int .u64 (pc : Nat)) ∧ (w').cell? ⟨b, 6, none⟩ = some (.bool hd) ∧ (∀ j, (w').frozen? ⟨b, j, none⟩ = false) ∧ b ≠ xb)
    (first | exact HK.out _ _ (by assumption) | exact HK.out _ _ (Holds.drop (by assumption)) | exact HK.out _ _ (Holds.drop (Holds.alloc (by assumption) _)) | exact HK.out _ _ (Holds.drop (Holds.drew (Holds.alloc H2 _))))
    (first
      | (go_at_call 69; refine (CW.out _ _ (by first | assumption | exact Holds.alloc (by assumption) _)).mono ?_; rintro e w4 ⟨rfl, HN⟩)
      | (go_at_call 52; refine (HP.out _ _ _ (by first | exact Holds.alloc (by assumption) _ | assumption)).mono ?_; rintro e w4 ⟨d, rfl, HN⟩)
      | (go_at_call 124; refine (HS.out _ _ _ (by assumption)).mono ?_; rintro e w4 ⟨rfl, HN⟩))
  all_goals
    clear k1 k2 k3 k4 k5 k6 H2 hdr H1 hme hnl CW HP HS HK
    go_wp2_with fail
    go_ret
    exact ⟨rfl, HN.drop⟩
end
end Go.Proofs.YtjbphdjheklhbaaGreat

/-
  Package cpu: which instruction is done.
-/
namespace Go.Proofs.YtjbphdjheklhbaaGreat
open Go.RowKit

/-- What an instruction does, as a value. -/
def insF : Nat → Nat
  | 0 => 44
  | 1 => 45
  | 2 => 46
  | 3 => 47
  | 4 => 48
  | 5 => 49
  | 6 => 50
  | _ => 51
def insFV (k : Nat) : Value := .func (.func (insF k)) #[] #[]
section
variable {w : World}
set_option maxRecDepth 100000 in
theorem cpuDoing0 : Calls Tryz.prog 25 #[.int .i64 0] w (Quiet w (insFV 0)) := by
  have h : ∀ w, (Instr.index 115 (.agg #[.func (.func 44) #[] #[], .func (.func 45) #[] #[], .func (.func 46) #[] #[], .func (.func 47) #[] #[], .func (.func 48) #[] #[], .func (.func 49) #[] #[], .func (.func 50) #[] #[], .func (.func 51) #[] #[]]) (.int .i64 0)).run Tryz.prog w = .ok (.func (.func 44) #[] #[]) w := fun w => by kernel_rfl
  go_enter Tryz.func25, Tryz.ntmps25
  go_wp2_with fail
  go_ret
  exact ⟨rfl, 0, rfl⟩
set_option maxRecDepth 100000 in
theorem cpuDoing1 : Calls Tryz.prog 25 #[.int .i64 1] w (Quiet w (insFV 1)) := by
  have h : ∀ w, (Instr.index 115 (.agg #[.func (.func 44) #[] #[], .func (.func 45) #[] #[], .func (.func 46) #[] #[], .func (.func 47) #[] #[], .func (.func 48) #[] #[], .func (.func 49) #[] #[], .func (.func 50) #[] #[], .func (.func 51) #[] #[]]) (.int .i64 1)).run Tryz.prog w = .ok (.func (.func 45) #[] #[]) w := fun w => by kernel_rfl
  go_enter Tryz.func25, Tryz.ntmps25
  go_wp2_with fail
  go_ret
  exact ⟨rfl, 0, rfl⟩
set_option maxRecDepth 100000 in
theorem cpuDoing2 : Calls Tryz.prog 25 #[.int .i64 2] w (Quiet w (insFV 2)) := by
  have h : ∀ w, (Instr.index 115 (.agg #[.func (.func 44) #[] #[], .func (.func 45) #[] #[], .func (.func 46) #[] #[], .func (.func 47) #[] #[], .func (.func 48) #[] #[], .func (.func 49) #[] #[], .func (.func 50) #[] #[], .func (.func 51) #[] #[]]) (.int .i64 2)).run Tryz.prog w = .ok (.func (.func 46) #[] #[]) w := fun w => by kernel_rfl
  go_enter Tryz.func25, Tryz.ntmps25
  go_wp2_with fail
  go_ret
  exact ⟨rfl, 0, rfl⟩
set_option maxRecDepth 100000 in
theorem cpuDoing3 : Calls Tryz.prog 25 #[.int .i64 3] w (Quiet w (insFV 3)) := by
  have h : ∀ w, (Instr.index 115 (.agg #[.func (.func 44) #[] #[], .func (.func 45) #[] #[], .func (.func 46) #[] #[], .func (.func 47) #[] #[], .func (.func 48) #[] #[], .func (.func 49) #[] #[], .func (.func 50) #[] #[], .func (.func 51) #[] #[]]) (.int .i64 3)).run Tryz.prog w = .ok (.func (.func 47) #[] #[]) w := fun w => by kernel_rfl
  go_enter Tryz.func25, Tryz.ntmps25
  go_wp2_with fail
  go_ret
  exact ⟨rfl, 0, rfl⟩
set_option maxRecDepth 100000 in
theorem cpuDoing4 : Calls Tryz.prog 25 #[.int .i64 4] w (Quiet w (insFV 4)) := by
  have h : ∀ w, (Instr.index 115 (.agg #[.func (.func 44) #[] #[], .func (.func 45) #[] #[], .func (.func 46) #[] #[], .func (.func 47) #[] #[], .func (.func 48) #[] #[], .func (.func 49) #[] #[], .func (.func 50) #[] #[], .func (.func 51) #[] #[]]) (.int .i64 4)).run Tryz.prog w = .ok (.func (.func 48) #[] #[]) w := fun w => by kernel_rfl
  go_enter Tryz.func25, Tryz.ntmps25
  go_wp2_with fail
  go_ret
  exact ⟨rfl, 0, rfl⟩
set_option maxRecDepth 100000 in
theorem cpuDoing5 : Calls Tryz.prog 25 #[.int .i64 5] w (Quiet w (insFV 5)) := by
  have h : ∀ w, (Instr.index 115 (.agg #[.func (.func 44) #[] #[], .func (.func 45) #[] #[], .func (.func 46) #[] #[], .func (.func 47) #[] #[], .func (.func 48) #[] #[], .func (.func 49) #[] #[], .func (.func 50) #[] #[], .func (.func 51) #[] #[]]) (.int .i64 5)).run Tryz.prog w = .ok (.func (.func 49) #[] #[]) w := fun w => by kernel_rfl
  go_enter Tryz.func25, Tryz.ntmps25
  go_wp2_with fail
  go_ret
  exact ⟨rfl, 0, rfl⟩
set_option maxRecDepth 100000 in
theorem cpuDoing6 : Calls Tryz.prog 25 #[.int .i64 6] w (Quiet w (insFV 6)) := by
  have h : ∀ w, (Instr.index 115 (.agg #[.func (.func 44) #[] #[], .func (.func 45) #[] #[], .func (.func 46) #[] #[], .func (.func 47) #[] #[], .func (.func 48) #[] #[], .func (.func 49) #[] #[], .func (.func 50) #[] #[], .func (.func 51) #[] #[]]) (.int .i64 6)).run Tryz.prog w = .ok (.func (.func 50) #[] #[]) w := fun w => by kernel_rfl
  go_enter Tryz.func25, Tryz.ntmps25
  go_wp2_with fail
  go_ret
  exact ⟨rfl, 0, rfl⟩
set_option maxRecDepth 100000 in
theorem cpuDoing7 : Calls Tryz.prog 25 #[.int .i64 7] w (Quiet w (insFV 7)) := by
  have h : ∀ w, (Instr.index 115 (.agg #[.func (.func 44) #[] #[], .func (.func 45) #[] #[], .func (.func 46) #[] #[], .func (.func 47) #[] #[], .func (.func 48) #[] #[], .func (.func 49) #[] #[], .func (.func 50) #[] #[], .func (.func 51) #[] #[]]) (.int .i64 7)).run Tryz.prog w = .ok (.func (.func 51) #[] #[]) w := fun w => by kernel_rfl
  go_enter Tryz.func25, Tryz.ntmps25
  go_wp2_with fail
  go_ret
  exact ⟨rfl, 0, rfl⟩
theorem cpuDoing (k : Nat) (h : k < 8) : Calls Tryz.prog 25 #[.int .i64 k] w (Quiet w (insFV k)) := by
  match k, h with
  | 0, _ => exact cpuDoing0
  | 1, _ => exact cpuDoing1
  | 2, _ => exact cpuDoing2
  | 3, _ => exact cpuDoing3
  | 4, _ => exact cpuDoing4
  | 5, _ => exact cpuDoing5
  | 6, _ => exact cpuDoing6
  | 7, _ => exact cpuDoing7
end
end Go.Proofs.YtjbphdjheklhbaaGreat

/-
  Package cpu: what an instruction does, as a function; its call.
-/
namespace Go.Proofs.YtjbphdjheklhbaaGreat
open Go.RowKit

/-- An instruction, done: the error, the cpu, the pages. -/
def execC (x : InsS) (M : List Pg) (C : CpS) : Nat × CpS × List Pg :=
  match x.op.toNat with
  | 0 => (0, ⟨C.r, sub64 C.pc 8, C.done, true⟩, M)
  | 1 => (0, ⟨C.r.set x.r.toNat (wideN x.imm), C.pc, C.done, C.halted⟩, M)
  | 2 => (0, ⟨C.r.set x.r.toNat (add64 (C.r.getD x.r.toNat 0) (add64 (C.r.getD x.s.toNat 0) (wideN x.imm))), C.pc, C.done, C.halted⟩, M)
  | 3 => (0, ⟨C.r.set x.r.toNat (sub64 (C.r.getD x.r.toNat 0) (C.r.getD x.s.toNat 0)), C.pc, C.done, C.halted⟩, M)
  | 4 => (chk M (add64 (C.r.getD x.s.toNat 0) (wideN x.imm)) 8 1, ldC C x.r.toNat (chk M (add64 (C.r.getD x.s.toNat 0) (wideN x.imm)) 8 1) (unle (rdb M (add64 (C.r.getD x.s.toNat 0) (wideN x.imm)) 8)), M)
  | 5 => (chk M (add64 (C.r.getD x.s.toNat 0) (wideN x.imm)) 8 2, C, stoP M (add64 (C.r.getD x.s.toNat 0) (wideN x.imm)) (le 8 (C.r.getD x.r.toNat 0)))
  | 6 => (0, ⟨C.r, if C.r.getD x.r.toNat 0 = 0 then C.pc else add64 C.pc (mul64 8 (sub64 (wideN x.imm) 1)), C.done, C.halted⟩, M)
  | _ => (0, ⟨C.r.set x.r.toNat (C.r.getD x.r.toNat 0 ^^^ C.r.getD x.s.toNat 0), C.pc, C.done, C.halted⟩, M)
/-- A step: the error, the cpu, the pages. -/
def stepS (M : List Pg) (C : CpS) : Nat × CpS × List Pg :=
  if C.halted = true then (6, C, M) else
  if chk M C.pc 8 4 ≠ 0 then (chk M C.pc 8 4, C, M) else
  if insOk (rdb M C.pc 8) = false then (3, C, M) else
  if (execC (insOf (rdb M C.pc 8)) M ⟨C.r, add64 C.pc 8, C.done, C.halted⟩).1 ≠ 0 then ((execC (insOf (rdb M C.pc 8)) M ⟨C.r, add64 C.pc 8, C.done, C.halted⟩).1, C, M) else
  (0, ⟨(execC (insOf (rdb M C.pc 8)) M ⟨C.r, add64 C.pc 8, C.done, C.halted⟩).2.1.r, (execC (insOf (rdb M C.pc 8)) M ⟨C.r, add64 C.pc 8, C.done, C.halted⟩).2.1.pc, C.done + 1, (execC (insOf (rdb M C.pc 8)) M ⟨C.r, add64 C.pc 8, C.done, C.halted⟩).2.1.halted⟩, (execC (insOf (rdb M C.pc 8)) M ⟨C.r, add64 C.pc 8, C.done, C.halted⟩).2.2)

structure InsOk (x : InsS) : Prop where
  op : 0 ≤ x.op ∧ x.op < 8
  r : 0 ≤ x.r ∧ x.r < 4
  s : 0 ≤ x.s ∧ x.s < 4
  imm : -2147483648 ≤ x.imm ∧ x.imm ≤ 2147483647
theorem CpOk.setR {C : CpS} (h : CpOk C) (k : Nat) {n : Nat} (hn : n < 18446744073709551616) (pc d : Nat) (hp : pc < 18446744073709551616) (x : Bool) : CpOk ⟨C.r.set k n, pc, d, x⟩ := by
  refine ⟨?_, ?_, hp⟩
  · show (C.r.set k n).length = 4
    rw [List.length_set]; exact h.len
  · intro x hx
    rcases List.mem_or_eq_of_mem_set hx with h' | h'
    · exact h.lt x h'
    · rw [h']; exact hn
theorem CpOk.setPc {C : CpS} (h : CpOk C) {n : Nat} (hn : n < 18446744073709551616) (d : Nat) (x : Bool) : CpOk ⟨C.r, n, d, x⟩ := ⟨h.len, h.lt, hn⟩
theorem unle8_lt {l : List UInt8} (h : l.length = 8) : unle l < 18446744073709551616 := by
  have h2 := unle_lt l
  rw [h] at h2
  exact Nat.lt_of_lt_of_le h2 (by decide)
theorem xor64_lt {a b : Nat} (ha : a < 18446744073709551616) (hb : b < 18446744073709551616) : a ^^^ b < 18446744073709551616 := Nat.xor_lt_two_pow (n := 64) ha hb
theorem ldC_ok {C : CpS} (h : CpOk C) (k E : Nat) {n : Nat} (hn : n < 18446744073709551616) : CpOk (ldC C k E n) ∧ (ldC C k E n).done = C.done := by
  unfold ldC
  split
  · exact ⟨h.setR k hn _ _ h.pc _, rfl⟩
  · exact ⟨h, rfl⟩
theorem execC_ok {x : InsS} {M : List Pg} {C : CpS} (h : CpOk C) : CpOk (execC x M C).2.1 ∧ (execC x M C).2.1.done = C.done := by
  have hw := wideN_lt x.imm
  have ha := fun a b => add64_lt a b
  have hs := fun a b => sub64_lt a b
  have hu := fun a => unle8_lt (l := rdb M a 8) (rdb_length _ _ _)
  have hp := h.pc
  have hreg := h.reg
  have hxx := fun k l => xor64_lt (hreg k) (hreg l)
  have hl := fun k E n (hn : n < 18446744073709551616) => ldC_ok h k E hn
  unfold execC
  generalize wideN x.imm = W at *
  generalize x.r.toNat = k at *
  generalize x.s.toNat = l at *
  split
  · exact ⟨h.setPc (hs _ _) _ _, rfl⟩
  · exact ⟨h.setR _ hw _ _ hp _, rfl⟩
  · exact ⟨h.setR _ (ha _ _) _ _ hp _, rfl⟩
  · exact ⟨h.setR _ (hs _ _) _ _ hp _, rfl⟩
  · exact hl _ _ _ (hu _)
  · exact ⟨h, rfl⟩
  · refine ⟨h.setPc ?_ _ _, rfl⟩
    split
    · exact hp
    · exact ha _ _
  · exact ⟨h.setR _ (hxx _ _) _ _ hp _, rfl⟩
theorem execC_mem {x : InsS} {M : List Pg} {C : CpS} (h : (execC x M C).1 ≠ 0) : (execC x M C).2.2 = M := by
  unfold execC at h ⊢
  split at h <;> dsimp only at h ⊢ <;> try rfl
  unfold stoP
  rw [le_length]
  exact if_neg h
theorem stepS_ok {M : List Pg} {C : CpS} (h : CpOk C) : CpOk (stepS M C).2.1 := by
  have h2 := execC_ok (x := insOf (rdb M C.pc 8)) (M := M) (C := ⟨C.r, add64 C.pc 8, C.done, C.halted⟩) (h.setPc (add64_lt _ _) _ _)
  unfold stepS
  repeat' split
  all_goals first | exact h | exact ⟨h2.1.len, h2.1.lt, h2.1.pc⟩

section
variable {e : Env} {w : World} {R : List HP} {m b : Nat} {M : List Pg} {C : CpS}
theorem cpuExec (x : InsS) (hx : InsOk x) (hC : CpOk C) (H : Holds e w (cpH b C :: modH m M :: R)) :
    Calls Tryz.prog (insF x.op.toNat) #[.pointer (some ⟨b, 0, none⟩), coreV m, x.val] w (Ret e (.int .i64 (execC x M C).1) (cpH b (execC x M C).2.1 :: modH m (execC x M C).2.2 :: R)) := by
  obtain ⟨op, r, s, imm⟩ := x
  obtain ⟨⟨h1, h2⟩, ⟨h3, h4⟩, ⟨h5, h6⟩, h7, h8⟩ := hx
  dsimp only at h1 h2 h3 h4 h5 h6 h7 h8
  obtain ⟨op, rfl⟩ : ∃ q : Nat, op = q := ⟨op.toNat, by omega⟩
  obtain ⟨r, rfl⟩ : ∃ q : Nat, r = q := ⟨r.toNat, by omega⟩
  obtain ⟨s, rfl⟩ : ∃ q : Nat, s = q := ⟨s.toNat, by omega⟩
  have hr : r < 4 := by omega
  have hs : s < 4 := by omega
  have ho : op < 8 := by omega
  clear h1 h2 h3 h4 h5 h6
  unfold execC
  simp only [Int.toNat_natCast]
  match op, ho with
  | 0, _ => exact cpuHalt hC hr hs h7 h8 H
  | 1, _ => exact cpuSet hC hr hs h7 h8 H
  | 2, _ => exact cpuAdd hC hr hs h7 h8 H
  | 3, _ => exact cpuSub hC hr hs h7 h8 H
  | 4, _ => exact cpuLoad hC hr hs h7 h8 H
  | 5, _ => exact cpuStore hC hr hs h7 h8 H
  | 6, _ => exact cpuJump hC hr hs h7 h8 H
  | 7, _ => exact cpuXor hC hr hs h7 h8 H
end
end Go.Proofs.YtjbphdjheklhbaaGreat

/-
  Package cpu: Step.
-/
namespace Go.Proofs.YtjbphdjheklhbaaGreat
open Go.RowKit

theorem list4 {l : List Nat} (h : l.length = 4) : ∃ a b c d, l = [a, b, c, d] := by
  match l, h with
  | [a, b, c, d], _ => exact ⟨a, b, c, d, rfl⟩
theorem sgn32_ok (n : Nat) (h : n < 4294967296) : -2147483648 ≤ sgn32 n ∧ sgn32 n ≤ 2147483647 := sgn32_bd n h
theorem insOf_ok {l : List UInt8} (h : insOk l = true) : InsOk (insOf l) := by
  unfold insOk mayI at h
  simp only [Bool.and_eq_true, decide_eq_true_eq] at h
  obtain ⟨⟨⟨⟨⟨⟨h1, h2⟩, h3⟩, h4⟩, h5⟩, h6⟩, _⟩ := h
  refine ⟨⟨h1, h2⟩, ⟨h3, h4⟩, ⟨h5, h6⟩, ?_⟩
  have h7 := unle_lt ((l.drop 4).take 4)
  have h8 : ((l.drop 4).take 4).length ≤ 4 := by rw [List.length_take]; omega
  have h9 : 256 ^ ((l.drop 4).take 4).length ≤ 256 ^ 4 := Nat.pow_le_pow_right (by omega) h8
  exact sgn32_bd _ (Nat.lt_of_lt_of_le h7 (Nat.le_trans h9 (by decide)))
theorem insF_call (k : Nat) (h : k < 8) (args : Array Value) (w : World) : (callFunc (insF k) args).run Tryz.prog w = .ok (.enter (insF k) args) w := by
  have h0 : (callFunc 44 args).run Tryz.prog w = .ok (.enter 44 args) w := by kernel_rfl
  have h1 : (callFunc 45 args).run Tryz.prog w = .ok (.enter 45 args) w := by kernel_rfl
  have h2 : (callFunc 46 args).run Tryz.prog w = .ok (.enter 46 args) w := by kernel_rfl
  have h3 : (callFunc 47 args).run Tryz.prog w = .ok (.enter 47 args) w := by kernel_rfl
  have h4 : (callFunc 48 args).run Tryz.prog w = .ok (.enter 48 args) w := by kernel_rfl
  have h5 : (callFunc 49 args).run Tryz.prog w = .ok (.enter 49 args) w := by kernel_rfl
  have h6 : (callFunc 50 args).run Tryz.prog w = .ok (.enter 50 args) w := by kernel_rfl
  have h7 : (callFunc 51 args).run Tryz.prog w = .ok (.enter 51 args) w := by kernel_rfl
  match k, h with
  | 0, _ => exact h0
  | 1, _ => exact h1
  | 2, _ => exact h2
  | 3, _ => exact h3
  | 4, _ => exact h4
  | 5, _ => exact h5
  | 6, _ => exact h6
  | 7, _ => exact h7
section
variable {e : Env} {w : World} {R : List HP} {m b : Nat} {M : List Pg} {C : CpS}
set_option maxRecDepth 100000 in
set_option maxHeartbeats 2000000 in
theorem cpuStep (hC : CpOk C) (hdn : C.done < 4611686018427387904) (H : Holds e w (cpH b C :: modH m M :: R)) :
    Calls Tryz.prog 5 #[.pointer (some ⟨b, 0, none⟩), coreV m] w (Ret e (.int .i64 (stepS M C).1) (cpH b (stepS M C).2.1 :: modH m (stepS M C).2.2 :: R)) := by
  have hq : ∀ w, (binOp .eql 61 (coreV m) .nilIface).run Tryz.prog w = .ok (.bool false) w := fun w => by kernel_rfl
  have hme := fun w => core_fetch (m := m) w
  have hnl := fun w => nil_fetch (m := m) w
  have hpc64 := hC.pc
  have HOK := Lib.hid hC
  obtain ⟨S, hS⟩ : ∃ S, stepS M C = S := ⟨_, rfl⟩
  have HS := Lib.hid hS
  rw [hS]
  obtain ⟨r, pc, dn, hd⟩ := C
  obtain ⟨r0, r1, r2, r3, hr⟩ := list4 hC.len
  dsimp only at hr hdn hpc64
  subst hr
  have HK : Hid (∀ w' X, Holds e w' (cpH b ⟨[r0, r1, r2, r3], pc, dn, hd⟩ :: X) → (∀ j, w'.cell? ⟨b, j, none⟩ = #[Value.int .u64 r0, .int .u64 r1, .int .u64 r2, .int .u64 r3, .int .u64 pc, .int .i64 dn, .bool hd][j]?) ∧ (∀ j, w'.frozen? ⟨b, j, none⟩ = false) ∧ b < w'.heap.size) := Lib.hid fun w' X h' => ⟨fun j => Holds.cells (c := #[Value.int .u64 r0, .int .u64 r1, .int .u64 r2, .int .u64 r3, .int .u64 pc, .int .i64 dn, .bool hd]) h' j, fun j => cpH.frozen h', Holds.lt (o := .cells (CpS.cells ⟨[r0, r1, r2, r3], pc, dn, hd⟩).toArray 68 (0, 0)) h'⟩
  obtain ⟨k1, k2, k3⟩ := HK.out _ _ H
  clear hC hS
  cases hd
  · have FE : Hid (∀ w' X, Holds e w' (cpH b ⟨[r0, r1, r2, r3], pc, dn, false⟩ :: modH m M :: X) → Calls Tryz.prog 122 #[.agg #[memV m, .pointer (some ⟨m, 0, none⟩)], .int .u64 pc, .int .i64 8] w'
        (RetEx e (fun d : Value => .tuple #[d, .int .i64 (chk M pc 8 4)]) (fun d => cpH b ⟨[r0, r1, r2, r3], pc, dn, false⟩ :: bts d (rdE M pc 8 4) :: modH m M :: X))) := Lib.hid fun w' X h' =>
      (cpuFetch (m := m) (M := M) hpc64 8 (by omega) (by omega) h'.swap).mono fun en w'' ⟨d, h1, h2⟩ => ⟨d, h1, h2.re 3 [2, 0, 1]⟩
    obtain ⟨E, hE⟩ : ∃ E, chk M pc 8 4 = E := ⟨_, rfl⟩
    rw [hE] at FE
    have HE := Lib.hid hE
    have HD := H.drew
    unfold coreV memV at *
    clear hE
    go_enter Tryz.func5, Tryz.ntmps5
    go_wp2_with fail
    go_region_held3 (fun w' => (∀ j, w'.cell? ⟨b, j, none⟩ = #[Value.int .u64 r0, .int .u64 r1, .int .u64 r2, .int .u64 r3, .int .u64 pc, .int .i64 dn, .bool false][j]?) ∧ (∀ j, w'.frozen? ⟨b, j, none⟩ = false) ∧ b < w'.heap.size)
      (first | exact HK.out _ _ (by assumption))
      (first | (go_at_call 122; refine (FE.out _ _ (by assumption)).mono ?_; rintro e w4 ⟨d, rfl, HN⟩))
    all_goals
      clear H HD k1 k2 k3 FE hme hnl
      rename_i w4
      by_cases hE0 : E = 0
      · have d0 : ((E : Int) != 0) = false := by simp [hE0]
        obtain ⟨l, hl⟩ : ∃ l, rdb M pc 8 = l := ⟨_, rfl⟩
        have hll : l.length = 8 := by rw [← hl]; exact rdb_length _ _ _
        rw [rdE_zero (HE.out.trans hE0), show ((8 : Int).toNat) = 8 from rfl, hl] at HN
        have HL := Lib.hid hl
        have CO : Hid (∀ w' X, Holds e w' (cpH b ⟨[r0, r1, r2, r3], pc, dn, false⟩ :: bts d l :: X) → Calls Tryz.prog 24 #[d] w' (Ret e (.tuple #[(insOf l).val, .bool (insOk l)]) (cpH b ⟨[r0, r1, r2, r3], pc, dn, false⟩ :: bts d l :: X))) := Lib.hid fun w' X h' => cpuOne l hll d (fun w'' g => bts.reads g.swap) h'
        obtain ⟨io, hio⟩ : ∃ io, insOk l = io := ⟨_, rfl⟩
        have HIO := Lib.hid hio
        rw [hio] at CO
        obtain ⟨x, hxx⟩ : ∃ x, insOf l = x := ⟨_, rfl⟩
        have HX := Lib.hid hxx
        rw [hxx] at CO
        obtain ⟨op, rr, ss, imm⟩ := x
        unfold InsS.val at CO
        dsimp only at CO
        clear hl hll hio hxx
        go_wp2_with fail
        refine (CO.out _ _ HN).mono ?_
        rintro en w5 ⟨rfl, H5⟩
        obtain ⟨k1, k2, k3⟩ := HK.out _ _ H5
        clear CO HN
        cases io
        · have HF : Hid (S = (3, ⟨[r0, r1, r2, r3], pc, dn, false⟩, M)) := Lib.hid (by
            rw [← HS.out]; unfold stepS; dsimp only
            rw [if_neg (by decide), if_neg (by rw [HE.out, hE0]; decide), HL.out, HIO.out, if_pos rfl])
          have HH : Hid (Holds e (w5.alloc (.cells #[.int .i64 op, .int .i64 rr, .int .i64 ss, .int .i32 imm] 72)) (cpH b ⟨[r0, r1, r2, r3], pc, dn, false⟩ :: modH m M :: R)) := Lib.hid ((H5.alloc _).re 4 [1, 3])
          clear H5 k1 k2 k3
          go_wp2_with fail
          go_ret
          exact ⟨by rw [HF.out]; rfl, by rw [HF.out]; exact HH.out⟩
        · have hx := insOf_ok HIO.out
          rw [HX.out] at hx
          have HXO := Lib.hid hx
          obtain ⟨⟨o1, o2⟩, _, _, _⟩ := hx
          dsimp only at o1 o2
          obtain ⟨op, rfl⟩ : ∃ q : Nat, op = q := ⟨op.toNat, by omega⟩
          obtain ⟨pc8, hpc8⟩ : ∃ q, add64 pc 8 = q := ⟨_, rfl⟩
          have hw1 : IntKind.u64.wrap ((pc : Int) + 8) = (pc8 : Int) := by rw [← hpc8]; exact add64_wrap pc 8
          have hx1 : pc8 < 18446744073709551616 := by rw [← hpc8]; exact add64_lt pc 8
          have HP8 := Lib.hid hpc8
          clear hpc8
          go_wp2_with fail
          obtain ⟨xb, hxb⟩ : ∃ xb, w5.heap.size = xb := ⟨_, rfl⟩
          have HA : Holds e (((w5.setCell ⟨b, 4, none⟩ (.int .u64 pc8)).alloc (.cells #[.int .i64 op, .int .i64 rr, .int .i64 ss, .int .i32 imm] 72)).alloc (.cells #[.int .u64 r0, .int .u64 r1, .int .u64 r2, .int .u64 r3, .int .u64 pc, .int .i64 dn, .bool false] 68))
              (pts xb (.cells #[.int .i64 op, .int .i64 rr, .int .i64 ss, .int .i32 imm] 72 (0, 0)) :: pts (xb + 1) (.cells #[.int .u64 r0, .int .u64 r1, .int .u64 r2, .int .u64 r3, .int .u64 pc, .int .i64 dn, .bool false] 68 (0, 0)) :: cpH b ⟨[r0, r1, r2, r3], pc8, dn, false⟩ :: modH m M :: R) := by
            have h1 : Holds e (w5.setCell ⟨b, 4, none⟩ (.int .u64 pc8)) (cpH b ⟨[r0, r1, r2, r3], pc8, dn, false⟩ :: bts d l :: modH m M :: R) := cpH.set H5 rfl
            have h2 := (h1.alloc (.cells #[.int .i64 op, .int .i64 rr, .int .i64 ss, .int .i32 imm] 72)).alloc (.cells #[.int .u64 r0, .int .u64 r1, .int .u64 r2, .int .u64 r3, .int .u64 pc, .int .i64 dn, .bool false] 68)
            rw [World.size_alloc] at h2
            have h3 : (w5.setCell ⟨b, 4, none⟩ (.int .u64 pc8)).heap.size = xb := by rw [← hxb]; simp [World.setCell]
            rw [h3] at h2
            exact h2.re 5 [1, 0, 2, 4]
          have HXc : Hid (∀ w' X, Holds e w' (pts xb (.cells #[.int .i64 op, .int .i64 rr, .int .i64 ss, .int .i32 imm] 72 (0, 0)) :: X) → ∀ j, w'.cell? ⟨xb, j, none⟩ = #[Value.int .i64 op, .int .i64 rr, .int .i64 ss, .int .i32 imm][j]?) := Lib.hid fun w' X h' => h'.cells
          have hcf := insF_call op (by omega)
          have CDo := Lib.hid fun w' => cpuDoing (w := w') op (by omega)
          obtain ⟨Y, hY⟩ : ∃ Y, execC ⟨op, rr, ss, imm⟩ M ⟨[r0, r1, r2, r3], pc8, dn, false⟩ = Y := ⟨_, rfl⟩
          have hC1 : CpOk ⟨[r0, r1, r2, r3], pc8, dn, false⟩ := HOK.out.setPc hx1 _ _
          have HYO := Lib.hid (execC_ok (x := ⟨op, rr, ss, imm⟩) (M := M) hC1)
          have CX : Hid (∀ w' X, Holds e w' (pts xb (.cells #[.int .i64 op, .int .i64 rr, .int .i64 ss, .int .i32 imm] 72 (0, 0)) :: pts (xb + 1) (.cells #[.int .u64 r0, .int .u64 r1, .int .u64 r2, .int .u64 r3, .int .u64 pc, .int .i64 dn, .bool false] 68 (0, 0)) :: cpH b ⟨[r0, r1, r2, r3], pc8, dn, false⟩ :: modH m M :: X) →
              Calls Tryz.prog (insF op) #[.pointer (some ⟨b, 0, none⟩), coreV m, .agg #[.int .i64 op, .int .i64 rr, .int .i64 ss, .int .i32 imm]] w' (Ret e (.int .i64 Y.1) (pts xb (.cells #[.int .i64 op, .int .i64 rr, .int .i64 ss, .int .i32 imm] 72 (0, 0)) :: pts (xb + 1) (.cells #[.int .u64 r0, .int .u64 r1, .int .u64 r2, .int .u64 r3, .int .u64 pc, .int .i64 dn, .bool false] 68 (0, 0)) :: cpH b Y.2.1 :: modH m Y.2.2 :: X))) := Lib.hid fun w' X h' => by
            have h1 := cpuExec ⟨op, rr, ss, imm⟩ HXO.out hC1 (h'.re 4 [2, 3, 0, 1])
            rw [hY] at h1
            exact retC h1 fun w'' g => g.re 4 [2, 3, 0, 1]
          have HYM : Hid (Y.1 ≠ 0 → Y.2.2 = M) := Lib.hid (by rw [← hY]; exact execC_mem)
          rw [hY] at HYO
          have HSY : Hid (S = if Y.1 ≠ 0 then (Y.1, ⟨[r0, r1, r2, r3], pc, dn, false⟩, M) else (0, ⟨Y.2.1.r, Y.2.1.pc, dn + 1, Y.2.1.halted⟩, Y.2.2)) := Lib.hid (by
            rw [← HS.out]; unfold stepS; dsimp only
            rw [if_neg (by decide), if_neg (by rw [HE.out, hE0]; decide), HL.out, HIO.out, if_neg (by decide), HX.out, HP8.out, hY])
          obtain ⟨E2, C2, M2⟩ := Y
          dsimp only at CX HYO HYM HSY
          have hne2 : b ≠ xb := by omega
          have hbx : b < xb := by omega
          unfold coreV memV at CX
          unfold insFV at CDo
          rw [hxb]
          clear hxb H5 k1 k2 k3 hY hC1 hw1 hx1 HP8
          refine code_at HA fun w6 H6 => ?_
          have HD := H6.drew
          have kx := HXc.out _ _ H6
          clear HA
          go_region_held3 (fun w' => ∀ j, w'.cell? ⟨xb, j, none⟩ = #[Value.int .i64 op, .int .i64 rr, .int .i64 ss, .int .i32 imm][j]?)
            (first | exact HXc.out _ _ (by assumption))
            (first
              | (go_at_call 25; refine (retQ (CDo.out _) (by assumption)).mono ?_; rintro e w7 ⟨rfl, HN⟩)
              | (refine (CX.out _ _ (by assumption)).mono ?_; rintro e w7 ⟨rfl, HN⟩))
          all_goals
            clear kx HD H6 CDo CX hcf
            obtain ⟨hC2, hdn2⟩ := HYO.out
            by_cases hE2 : E2 = 0
            · subst hE2
              have d2 : (((0 : Nat) : Int) != 0) = false := rfl
              have hl2 := hC2.len
              have HF : Hid (S = (0, ⟨C2.r, C2.pc, dn + 1, C2.halted⟩, M2)) := Lib.hid (by rw [HSY.out, if_neg (by decide)])
              have c5 := cpH.cell HN.p2 (cp_done hl2)
              have f5 := cpH.frozen (k := 5) HN.p2
              rw [hdn2] at c5
              have HZ : Hid (Holds e (w7.setCell ⟨b, 5, none⟩ (.int .i64 ((dn + 1 : Nat) : Int))) (cpH b ⟨C2.r, C2.pc, dn + 1, C2.halted⟩ :: modH m M2 :: R)) := Lib.hid ((cpH.set HN.p2 (cp_setDone hl2 (dn + 1))).re 4 [0, 3])
              obtain ⟨d1, hd1⟩ : ∃ d1, dn + 1 = d1 := ⟨_, rfl⟩
              rw [hd1] at HZ HF
              have i1 : (dn : Int) + 1 = (d1 : Int) := by omega
              have d1b : d1 ≤ 4611686018427387904 := by omega
              clear HN hd1
              go_wp2_with fail
              go_ret
              exact ⟨by rw [HF.out]; rfl, by rw [HF.out]; exact HZ.out⟩
            · have d2 : ((E2 : Int) != 0) = true := by simp; omega
              have hM2 := HYM.out hE2
              have HF : Hid (S = (E2, ⟨[r0, r1, r2, r3], pc, dn, false⟩, M)) := Lib.hid (by rw [HSY.out, if_pos hE2])
              subst hM2
              obtain ⟨r', pc', dn', hd'⟩ := C2
              obtain ⟨s0, s1, s2, s3, hs⟩ := list4 hC2.len
              dsimp only at hs
              subst hs
              have cw : ∀ j, w7.cell? ⟨xb + 1, j, none⟩ = #[Value.int .u64 r0, .int .u64 r1, .int .u64 r2, .int .u64 r3, .int .u64 pc, .int .i64 dn, .bool false][j]? := HN.swap.cells
              have cb : ∀ j, w7.cell? ⟨b, j, none⟩ = #[Value.int .u64 s0, .int .u64 s1, .int .u64 s2, .int .u64 s3, .int .u64 pc', .int .i64 dn', .bool hd'][j]? := fun j => Holds.cells (c := #[Value.int .u64 s0, .int .u64 s1, .int .u64 s2, .int .u64 s3, .int .u64 pc', .int .i64 dn', .bool hd']) HN.p2 j
              have fb : ∀ j, w7.frozen? ⟨b, j, none⟩ = false := fun j => cpH.frozen HN.p2
              have hnb : b ≠ xb + 1 := by omega
              have z0 := cpH.set (k := 0) (v := .int .u64 r0) (C' := ⟨[r0, s1, s2, s3], pc', dn', hd'⟩) HN.p2 rfl
              have z1 := cpH.set (k := 1) (v := .int .u64 r1) (C' := ⟨[r0, r1, s2, s3], pc', dn', hd'⟩) z0 rfl
              have z2 := cpH.set (k := 2) (v := .int .u64 r2) (C' := ⟨[r0, r1, r2, s3], pc', dn', hd'⟩) z1 rfl
              have z3 := cpH.set (k := 3) (v := .int .u64 r3) (C' := ⟨[r0, r1, r2, r3], pc', dn', hd'⟩) z2 rfl
              have z4 := cpH.set (k := 4) (v := .int .u64 pc) (C' := ⟨[r0, r1, r2, r3], pc, dn', hd'⟩) z3 rfl
              have z5 := cpH.set (k := 5) (v := .int .i64 dn) (C' := ⟨[r0, r1, r2, r3], pc, dn, hd'⟩) z4 rfl
              have z6 := cpH.set (k := 6) (v := .bool false) (C' := ⟨[r0, r1, r2, r3], pc, dn, false⟩) z5 rfl
              have HZ := Lib.hid (z6.re 4 [0, 3])
              clear HN z0 z1 z2 z3 z4 z5 z6
              go_wp2_with fail
              go_ret
              exact ⟨by rw [HF.out]; rfl, by rw [HF.out]; exact HZ.out⟩
      · have d0 : ((E : Int) != 0) = true := by simp; omega
        have HF : Hid (S = (E, ⟨[r0, r1, r2, r3], pc, dn, false⟩, M)) := Lib.hid (by
          rw [← HS.out]; unfold stepS; dsimp only
          rw [if_neg (by decide), HE.out, if_pos hE0])
        have HH := Lib.hid (HN.re 3 [0, 2])
        clear HN
        go_wp2_with fail
        go_ret
        exact ⟨by rw [HF.out]; rfl, by rw [HF.out]; exact HH.out⟩
  · have HF : Hid (S = (6, ⟨[r0, r1, r2, r3], pc, dn, true⟩, M)) := Lib.hid (by
      rw [← HS.out]; unfold stepS; rw [if_pos rfl])
    have HH := Lib.hid H
    unfold coreV memV at *
    go_enter Tryz.func5, Tryz.ntmps5
    go_wp2_with fail
    go_ret
    exact ⟨by rw [HF.out]; rfl, by rw [HF.out]; exact HH.out⟩
end
end Go.Proofs.YtjbphdjheklhbaaGreat

/-
  Package cpu: New, Run; what a cpu tells.
-/
namespace Go.Proofs.YtjbphdjheklhbaaGreat
open Go.RowKit

/-- The registers at the start. -/
def begR (ns : List Nat) : List Nat := ns.take 4 ++ List.replicate (4 - min 4 ns.length) 0
theorem begR_len (ns : List Nat) : (begR ns).length = 4 := by simp [begR]; omega
theorem begR_ok {ns : List Nat} (h : ∀ x ∈ ns, x < 18446744073709551616) {pc : Nat} (hp : pc < 18446744073709551616) (d : Nat) (x : Bool) : CpOk ⟨begR ns, pc, d, x⟩ := by
  refine ⟨begR_len ns, fun x hx => ?_, hp⟩
  rcases List.mem_append.1 hx with hx | hx
  · exact h x (List.mem_of_mem_take hx)
  · have := List.eq_of_mem_replicate hx; omega
def newL (pc : Nat) : List Value := [Value.int .u64 0, .int .u64 0, .int .u64 0, .int .u64 0, .int .u64 pc, .int .i64 0, .bool false]
theorem begR_cells (ns : List Nat) (pc : Nat) : u64v (ns.take 4) ++ (newL pc).drop (u64v (ns.take 4)).length = u64v (begR ns) ++ [Value.int .u64 pc, .int .i64 0, .bool false] := by
  have h4 : newL pc = List.replicate 4 (Value.int .u64 0) ++ [Value.int .u64 pc, .int .i64 0, .bool false] := rfl
  rw [h4]
  have hl : (u64v (ns.take 4)).length = min 4 ns.length := by simp [u64v]
  rw [hl, List.drop_append_of_le_length (by simp; omega), List.drop_replicate]
  unfold begR
  rw [← List.append_assoc]
  congr 1
  simp [u64v]

section
variable {e : Env} {w : World} {R : List HP} {m b : Nat} {M : List Pg} {C : CpS}
set_option maxRecDepth 100000 in
theorem cpuNew (pc : Nat) (ns : List Nat) (v : Value) (hr : ∀ w', Holds e w' R → Reads w' v 1 ns.length (u64v ns)) (H : Holds e w R) :
    Calls Tryz.prog 17 #[.int .u64 pc, v] w (RetEx e (fun b : Nat => .pointer (some ⟨b, 0, none⟩)) (fun b => cpH b ⟨begR ns, pc, 0, false⟩ :: R)) := by
  have H1 := H.alloc (.cells (newL pc).toArray 68)
  obtain ⟨b, hb⟩ : ∃ b, w.heap.size = b := ⟨_, rfl⟩
  rw [hb] at H1
  have hrd := hr _ H1.drop
  obtain ⟨ad, c, rfl⟩ := hrd.shape
  have hcp : ∃ w2 z, (Builtin.copy_ #[25, 25] 3 #[.slice (some ⟨b, 0, none⟩) 4 4, .slice ad ns.length c]).run Tryz.prog (w.alloc (.cells (newL pc).toArray 68)) = .ok z w2 ∧ Holds e w2 (cpH b ⟨begR ns, pc, 0, false⟩ :: R) := by
    generalize w.alloc (.cells (newL pc).toArray 68) = w1 at *
    rcases hrd.2 with ⟨h0, h1⟩ | ⟨a, cap, h0, hc, hcell⟩
    · obtain rfl : ns = [] := List.eq_nil_of_length_eq_zero h1
      injection h0 with h2 h3 h4
      subst h2 h4
      exact ⟨_, _, run_copy_nil (P := Tryz.prog) _ _ _ _ 22 _ _ _ (by kernel_rfl) (by kernel_rfl), H1⟩
    · injection h0 with h2 h3 h4
      subst h2
      have hcs : (u64v (ns.take 4)).length = Nat.min ns.length 4 := by simp only [u64v, List.length_map, List.length_take]; exact Nat.min_comm _ _
      have hle : (u64v (ns.take 4)).length ≤ 4 := by rw [hcs]; exact Nat.min_le_right _ _
      have hone : ∀ u ∈ u64v (ns.take 4), u.oneCell' = true := by
        intro u hu
        unfold u64v at hu
        obtain ⟨x, _, rfl⟩ := List.mem_map.1 hu
        rfl
      have hrun := run_copy_row (P := Tryz.prog) w1 25 25 3 22 b 0 4 4 a ns.length c (newL pc).toArray 68 (u64v (ns.take 4)) (by kernel_rfl) (by kernel_rfl) H1.get hcs
        (fun j u hj => hcell j u (by
          have h1 : u64v (ns.take 4) = (u64v ns).take 4 := by simp [u64v, List.map_take]
          rw [h1] at hj
          exact (take_get hj).1)) (by show 0 + _ ≤ 7; omega) hone
      refine ⟨_, _, hrun, ?_⟩
      generalize hA : ((newL pc).toArray.toList.take 0 ++ u64v (ns.take 4) ++ (newL pc).toArray.toList.drop (0 + (u64v (ns.take 4)).length)).toArray = A
      have hA2 : A = (u64v (begR ns) ++ [Value.int .u64 pc, .int .i64 0, .bool false]).toArray := by
        rw [← hA, ← begR_cells]
        simp
      have hset := H1.setObj (w' := w1.setRow b A) (o' := .cells A 68 (0, 0)) rfl rfl rfl (setRow_heap w1 b _ A 68 _ H1.get) (fun k hk => setRow_other w1 b k A hk)
      rw [hA2] at hset ⊢
      exact hset
  obtain ⟨w2, z, hcp, H2⟩ := hcp
  clear hr hrd H1
  subst hb
  unfold newL at hcp
  go_enter Tryz.func17, Tryz.ntmps17
  go_wp2_with fail
  go_ret
  exact ⟨_, rfl, H2⟩
end
end Go.Proofs.YtjbphdjheklhbaaGreat

/-
  Package cpu: Run; what a cpu tells.
-/
namespace Go.Proofs.YtjbphdjheklhbaaGreat
open Go.RowKit

/-- A run: how many steps were done, the error, the cpu, the pages. -/
def runF : Nat → List Pg → CpS → Nat × Nat × CpS × List Pg
  | 0, M, C => (0, 0, C, M)
  | k + 1, M, C =>
    if C.halted = true then (0, 0, C, M) else
    if (stepS M C).1 ≠ 0 then (0, (stepS M C).1, C, M) else
    ((runF k (stepS M C).2.2 (stepS M C).2.1).1 + 1, (runF k (stepS M C).2.2 (stepS M C).2.1).2.1, (runF k (stepS M C).2.2 (stepS M C).2.1).2.2.1, (runF k (stepS M C).2.2 (stepS M C).2.1).2.2.2)
theorem stepS_err {M : List Pg} {C : CpS} (h : (stepS M C).1 ≠ 0) : (stepS M C).2 = (C, M) := by
  unfold stepS at h ⊢
  repeat' split at h
  all_goals first
    | exact absurd rfl h
    | (simp only [*, if_true, if_false, ne_eq, not_false_eq_true]; done)
    | (simp_all; done)
theorem stepS_done {M : List Pg} {C : CpS} : (stepS M C).2.1.done ≤ C.done + 1 := by
  unfold stepS
  repeat' split
  all_goals first | exact Nat.le_succ _ | exact Nat.le_refl _

section
variable {e : Env} {w : World} {R : List HP} {m b : Nat} {M : List Pg} {C : CpS}
set_option maxRecDepth 100000 in
set_option maxHeartbeats 2000000 in
theorem cpuRun (hC : CpOk C) (most : Int) (hm0 : -9223372036854775808 ≤ most) (hm1 : most ≤ 1000000) (hdn : C.done ≤ 1000000000) (H : Holds e w (cpH b C :: modH m M :: R)) :
    Calls Tryz.prog 4 #[.pointer (some ⟨b, 0, none⟩), coreV m, .int .i64 most] w
      (Ret e (.tuple #[.int .i64 (runF most.toNat M C).1, .int .i64 (runF most.toNat M C).2.1]) (cpH b (runF most.toNat M C).2.2.1 :: modH m (runF most.toNat M C).2.2.2 :: R)) := by
  have hq : ∀ w, (binOp .eql 61 (coreV m) .nilIface).run Tryz.prog w = .ok (.bool false) w := fun w => by kernel_rfl
  obtain ⟨T, hT⟩ : ∃ T, runF most.toNat M C = T := ⟨_, rfl⟩
  rw [hT]
  have HT := Lib.hid hT
  have HC0 := Lib.hid hC
  have CS := Lib.hid fun w' M' C' (h1 : CpOk C') (h2 : C'.done ≤ 2000000000) (h' : Holds e w' (cpH b C' :: modH m M' :: R)) => cpuStep h1 (by omega) h'
  obtain ⟨d0, hd0⟩ : ∃ d0, C.done = d0 := ⟨_, rfl⟩
  have HD0 := Lib.hid hd0
  rw [hd0] at hdn
  unfold coreV memV at *
  clear hT hC hd0
  go_enter Tryz.func4, Tryz.ntmps4
  go_wp2_with fail
  go_loopw [8] (fun n wr => ∃ (i k : Nat) (C' : CpS) (M' : List Pg), n = .int .i64 (i : Nat) ∧ i ≤ 1000000 ∧ most.toNat = i + k ∧ Hid (CpOk C') ∧ C'.done ≤ d0 + i ∧ Hid (T = ((runF k M' C').1 + i, (runF k M' C').2.1, (runF k M' C').2.2.1, (runF k M' C').2.2.2)) ∧ Holds e wr (cpH b C' :: modH m M' :: R)) (fun n _ => most.toNat - (Go.RowKit.intOf n).toNat)
  case atStart => exact ⟨0, most.toNat, C, M, rfl, by omega, by omega, HC0, by rw [HD0.out]; omega, Lib.hid HT.out.symm, H⟩
  case round =>
    clear H
    obtain ⟨i, k, C', M', rfl, hi, hik, hC', hdC, hTT, HX⟩ := hrel
    have hl := hC'.out.len
    have c6 := cpH.cell HX (cp_halted hl)
    obtain ⟨hd, hhd⟩ : ∃ hd, C'.halted = hd := ⟨_, rfl⟩
    rw [hhd] at c6
    have hC2 := hC'.out
    by_cases hk : k = 0
    · subst hk
      have hlt : decide ((i : Int) < most) = false := decide_eq_false (by omega)
      have HF : Hid (T = (i, 0, C', M')) := Lib.hid (by rw [hTT.out]; simp [runF])
      have HH := Lib.hid HX
      clear hTT HX hhd hC2
      go_wp2_with fail
      go_ret2
      exact ⟨by rw [HF.out]; rfl, by rw [HF.out]; exact HH.out⟩
    · obtain ⟨k', rfl⟩ : ∃ k', k = k' + 1 := ⟨k - 1, by omega⟩
      have hlt : decide ((i : Int) < most) = true := decide_eq_true (by omega)
      cases hd
      · obtain ⟨Y, hY⟩ : ∃ Y, stepS M' C' = Y := ⟨_, rfl⟩
        have CSx := Lib.hid (CS.out _ _ _ hC2 (by omega) HX)
        have hYo := stepS_ok (M := M') hC2
        have hYd := stepS_done (M := M') (C := C')
        have hYe := stepS_err (M := M') (C := C')
        have hTY : T = if Y.1 ≠ 0 then (i, Y.1, C', M') else ((runF k' Y.2.2 Y.2.1).1 + (i + 1), (runF k' Y.2.2 Y.2.1).2.1, (runF k' Y.2.2 Y.2.1).2.2.1, (runF k' Y.2.2 Y.2.1).2.2.2) := by
          rw [hTT.out]
          conv => lhs; unfold runF
          rw [hhd, if_neg (by decide), hY]
          split
          · simp
          · simp only [Prod.mk.injEq, and_true]
            omega
        rw [hY] at CSx hYo hYd hYe
        obtain ⟨E2, C2, M2⟩ := Y
        dsimp only at *
        by_cases hE : E2 = 0
        · subst hE
          rw [if_neg (by decide)] at hTY
          have HTY := Lib.hid hTY
          have HYO := Lib.hid hYo
          clear hTT HX hTY hYe hY hhd hC2 hYo
          go_wp2_with fail
          refine CSx.out.mono ?_
          rintro en w2 ⟨rfl, H2⟩
          clear CSx
          go_wp2_with fail
          go_roundw
          case rel => exact ⟨i + 1, k', C2, M2, by go_num, by omega, by omega, HYO, by omega, HTY, H2⟩
          case measure => simp [Go.RowKit.intOf]; omega
        · have d2 : ((E2 : Int) != 0) = true := by simp; omega
          have hq2 := hYe hE
          rw [if_pos hE] at hTY
          have HTY := Lib.hid hTY
          injection hq2 with q1 q2
          subst q1 q2
          clear hTT HX hTY hYe hY hhd hC2 hYo
          go_wp2_with fail
          refine CSx.out.mono ?_
          rintro en w2 ⟨rfl, H2⟩
          clear CSx
          go_wp2_with fail
          go_ret2
          exact ⟨by rw [HTY.out]; rfl, by rw [HTY.out]; exact H2⟩
      · have HF : Hid (T = (i, 0, C', M')) := Lib.hid (by
          rw [hTT.out]
          conv => lhs; unfold runF
          rw [if_pos hhd]
          simp)
        have HH := Lib.hid HX
        clear hTT HX hhd hC2
        go_wp2_with fail
        go_ret2
        exact ⟨by rw [HF.out]; rfl, by rw [HF.out]; exact HH.out⟩
end
end Go.Proofs.YtjbphdjheklhbaaGreat

/-
  Package cpu: Put.
-/
namespace Go.Proofs.YtjbphdjheklhbaaGreat
open Go.RowKit

def insB (x : InsS) : List UInt8 := [UInt8.ofNat x.op.toNat, UInt8.ofNat x.r.toNat, UInt8.ofNat x.s.toNat, 0] ++ le 4 (x.imm % 4294967296).toNat
theorem insB_len (x : InsS) : (insB x).length = 8 := by simp [insB, le_length]
theorem insB_lens (l : List InsS) : (l.flatMap insB).length = l.length * 8 := by
  induction l with
  | nil => rfl
  | cons x l ih => rw [List.flatMap_cons, List.length_append, insB_len, ih, List.length_cons]; omega
theorem icells_len (l : List InsS) : (l.flatMap InsS.cells).length = l.length * 4 := by
  induction l with
  | nil => rfl
  | cons b l ih => simp [InsS.cells, ih]; omega
theorem icells_at {l : List InsS} {k : Nat} {b : InsS} (h : l[k]? = some b) (j : Nat) (hj : j < 4) : (l.flatMap InsS.cells)[k * 4 + j]? = b.cells[j]? := by
  induction l generalizing k with
  | nil => simp at h
  | cons x l ih =>
    cases k with
    | zero =>
      simp at h
      subst h
      rw [Nat.zero_mul, Nat.zero_add, List.flatMap_cons, List.getElem?_append_left (by simp [InsS.cells]; omega)]
    | succ k =>
      simp at h
      rw [List.flatMap_cons, List.getElem?_append_right (by simp [InsS.cells]; omega), ← ih h]
      congr 1
      simp [InsS.cells]
      omega
def putE (l : List InsS) : Nat := if l.all mayI then 0 else 1
def putB (l : List InsS) : List UInt8 := if l.all mayI then l.flatMap insB else []

section
variable {e : Env} {w : World} {R : List HP}
set_option maxRecDepth 100000 in
set_option maxHeartbeats 2000000 in
theorem cpuPut (l : List InsS) (hl : l.length ≤ 100) (hi : ∀ x ∈ l, -2147483648 ≤ x.imm ∧ x.imm ≤ 2147483647) (v : Value) (hr : ∀ w', Holds e w' R → Reads w' v 4 l.length (l.flatMap InsS.cells)) (H : Holds e w R) :
    Calls Tryz.prog 26 #[v] w (RetEx e (fun v' : Value => .tuple #[v', .int .i64 (putE l)]) (fun v' => bts v' (putB l) :: R)) := by
  obtain ⟨ad, c, rfl⟩ := (hr w H).shape
  obtain ⟨len, hlen⟩ : ∃ len, l.length = len := ⟨_, rfl⟩
  have HLEN := Lib.hid hlen
  rw [hlen] at hr hl ⊢
  have HR := Lib.hid hr
  have HI := Lib.hid hi
  have CM := Lib.hid fun w' X x (h' : Holds e w' X) => cpuMay x h'
  have HP : Hid (∀ w' blk X (n : Nat), Holds e w' (pts blk (.cells #[.int .u64 n] 22 (0, 0)) :: X) → Calls Tryz.prog 52 #[.int .i64 4, .slice (some ⟨blk, 0, none⟩) 1 1] w' (RetEx e (fun v : Value => v) (fun v => bts v (le 4 n) :: X))) := Lib.hid fun w' blk X n h' => by
    have := numPut_any h' 4 (by omega) (by omega) [n] (by simp) (.slice (some ⟨blk, 0, none⟩) 1 1) (fun w' h'' => ⟨rfl, .inr ⟨_, _, rfl, Nat.le_refl _, fun j u hj => by rw [Addr.add_at, Nat.zero_add, h''.cells]; simpa [u64v] using hj⟩⟩)
    exact (this.mono fun en w'' ⟨v, h1, h2⟩ => ⟨v, h1, by simpa using h2.d1⟩)
  obtain ⟨rE, hrE⟩ : ∃ rE, putE l = rE := ⟨_, rfl⟩
  obtain ⟨rB, hrB⟩ : ∃ rB, putB l = rB := ⟨_, rfl⟩
  have HE := Lib.hid hrE
  have HB := Lib.hid hrB
  rw [hrE, hrB]
  clear hr hi hlen hrE hrB
  go_enter Tryz.func26, Tryz.ntmps26
  go_wp2_with fail
  go_loopw [4, 9] (fun o i wr => ∃ (k : Nat) (ov : Value), ov = o ∧ k ≤ len ∧ i = .int .i64 (k : Nat) ∧ Hid (∀ x ∈ l.take k, mayI x = true) ∧ Holds e wr (row ov 5 1 (k * 8) (u8v ((l.take k).flatMap insB)) :: R)) (fun _ i _ => len - (Go.RowKit.intOf i).toNat)
  case atStart => exact ⟨0, _, rfl, by omega, rfl, Lib.hid (by simp), row.nil _ 1 H⟩
  case round =>
    clear H
    obtain ⟨k, ov, rfl, hk, rfl, hall, HX⟩ := hrel
    by_cases hlt : k < len
    · obtain ⟨x, hxk⟩ : ∃ x, l[k]? = some x := ⟨_, List.getElem?_eq_getElem (by rw [HLEN.out]; exact hlt)⟩
      have hxi := HI.out x (List.mem_of_getElem? hxk)
      obtain ⟨g, o, rfl, hrr⟩ := (HR.out _ HX.drop).at (by omega)
      have c0 : wr.cell? ⟨g, o + k * 4, none⟩ = some (.int .i64 x.op) := hrr _ _ (icells_at hxk 0 (by omega))
      have c1 : wr.cell? ⟨g, o + k * 4 + 1, none⟩ = some (.int .i64 x.r) := by rw [Nat.add_assoc]; exact hrr _ _ (icells_at hxk 1 (by omega))
      have c2 : wr.cell? ⟨g, o + k * 4 + 2, none⟩ = some (.int .i64 x.s) := by rw [Nat.add_assoc]; exact hrr _ _ (icells_at hxk 2 (by omega))
      have c3 : wr.cell? ⟨g, o + k * 4 + 3, none⟩ = some (.int .i32 x.imm) := by rw [Nat.add_assoc]; exact hrr _ _ (icells_at hxk 3 (by omega))
      have HXK := Lib.hid hxk
      have htk : l.take (k + 1) = l.take k ++ [x] := by rw [List.take_add_one, hxk]; rfl
      have HTK := Lib.hid htk
      have CMx := Lib.hid fun w' X (h' : Holds e w' X) => CM.out w' X x h'
      have HME : Hid (mayI x = mayI x) := Lib.hid rfl
      obtain ⟨bx, hbx⟩ : ∃ bx, wr.heap.size = bx := ⟨_, rfl⟩
      have HA := HX.alloc (.cells #[.int .i64 x.op, .int .i64 x.r, .int .i64 x.s, .int .i32 x.imm] 72)
      rw [hbx] at HA
      obtain ⟨mx, hmx⟩ : ∃ mx, mayI x = mx := ⟨_, rfl⟩
      rw [hmx] at CMx
      have HMX := Lib.hid hmx
      unfold InsS.val at CMx
      clear hrr hxk htk HX hmx HME
      cases mx
      · have HF : Hid (rE = 1 ∧ rB = []) := Lib.hid (by
          have hnot : l.all mayI = false := by
            rw [List.all_eq_false]
            exact ⟨x, List.mem_of_getElem? HXK.out, by rw [HMX.out]; decide⟩
          rw [← HE.out, ← HB.out]
          unfold putE putB
          rw [hnot]
          exact ⟨rfl, rfl⟩)
        go_wp2_with fail
        refine (CMx.out _ _ HA).mono ?_
        rintro en w2 ⟨rfl, H2⟩
        have HH := Lib.hid (bts.nil H2.drop.drop)
        clear CMx HA H2
        go_wp2_with fail
        go_ret2
        obtain ⟨q1, q2⟩ := HF.out
        exact ⟨.slice none 0 0, by rw [q1]; rfl, by rw [q2]; exact HH.out⟩
      · obtain ⟨op, rr, ss, imm⟩ := x
        have hm := HMX.out
        unfold mayI at hm
        simp only [Bool.and_eq_true, decide_eq_true_eq] at hm
        obtain ⟨⟨⟨⟨⟨m1, m2⟩, m3⟩, m4⟩, m5⟩, m6⟩ := hm
        dsimp only at *
        obtain ⟨op, rfl⟩ : ∃ q : Nat, op = q := ⟨op.toNat, by omega⟩
        obtain ⟨rr, rfl⟩ : ∃ q : Nat, rr = q := ⟨rr.toNat, by omega⟩
        obtain ⟨ss, rfl⟩ : ∃ q : Nat, ss = q := ⟨ss.toNat, by omega⟩
        obtain ⟨n32, hn32⟩ : ∃ n32 : Nat, (imm % 4294967296).toNat = n32 := ⟨_, rfl⟩
        have hw1 : IntKind.u32.wrap imm = (n32 : Int) := by rw [IntKind.wrap_u32']; omega
        have hn64 : n32 < 4294967296 := by omega
        have HALL : Hid (∀ y ∈ l.take (k + 1), mayI y = true) := Lib.hid (by
          intro y hy
          rw [HTK.out] at hy
          rcases List.mem_append.1 hy with hy | hy
          · exact hall.out y hy
          · have : y = ⟨op, rr, ss, imm⟩ := by simpa using hy
            rw [this]; exact HMX.out)
        have HBY : Hid (insB ⟨op, rr, ss, imm⟩ = [UInt8.ofNat op, UInt8.ofNat rr, UInt8.ofNat ss, 0] ++ le 4 n32) := Lib.hid (by unfold insB; dsimp only; rw [hn32]; simp)
        have o8 : op < 8 := by omega
        have r8 : rr < 4 := by omega
        have s8 : ss < 4 := by omega
        have u1 : u8v [UInt8.ofNat op, UInt8.ofNat rr, UInt8.ofNat ss, 0] = [.int .u8 op, .int .u8 rr, .int .u8 ss, .int .u8 0] := by
          have e1 : (UInt8.ofNat op).toNat = op := by rw [UInt8.toNat_ofNat']; omega
          have e2 : (UInt8.ofNat rr).toNat = rr := by rw [UInt8.toNat_ofNat']; omega
          have e3 : (UInt8.ofNat ss).toNat = ss := by rw [UInt8.toNat_ofNat']; omega
          simp [u8v, e1, e2, e3]
        have HU := Lib.hid u1
        clear m1 m2 m3 m4 m5 m6 hn32 u1
        go_wp2_with fail
        refine (CMx.out _ _ HA).mono ?_
        rintro en w2 ⟨rfl, H2⟩
        have hcx := H2.cells
        clear CMx HA
        have HA2 : Holds e (w2.alloc (.cells #[.int .u8 op, .int .u8 rr, .int .u8 ss, .int .u8 0] 5)) (row ov 5 1 (k * 8) (u8v ((l.take k).flatMap insB)) :: pts bx (.cells #[.int .i64 op, .int .i64 rr, .int .i64 ss, .int .i32 imm] 72 (0, 0)) :: R) := (H2.alloc _).re 3 [2, 1]
        have HRL := reads_lits w2 [.int .u8 op, .int .u8 rr, .int .u8 ss, .int .u8 0] 5 4 1 rfl
        clear H2
        go_wp2_with (at_builtin; refine wpList_append_sl rfl (.tmp 16) _ _ rfl 5 1 1 elem_u8 ov (k * 8) (u8v ((l.take k).flatMap insB)) rfl HA2 (.slice (some ⟨w2.heap.size, 0, none⟩) 4 4) 4 [.int .u8 op, .int .u8 rr, .int .u8 ss, .int .u8 0] rfl HRL (by simp [Value.oneCell']) ?_ ?_ ?_)
        · unfold maxLen; omega
        · omega
        intro v3 w3 H3
        have hcx3 := H3.swap.cells
        clear HA2 HRL hcx
        go_wp2_with fail
        refine (HP.out _ _ _ _ (H3.alloc _)).mono ?_
        rintro en w4 ⟨pv, rfl, H4⟩
        have HRL : Reads w4 pv 1 4 (u8v (le 4 n32)) := by
          have h := bts.reads H4
          unfold RdB at h
          rw [le_length] at h
          exact h
        have H5 := H4.swap
        clear H3 H4 hcx3
        go_wp2_with (at_builtin; refine wpList_append_sl rfl (.tmp 28) _ _ rfl 5 1 1 elem_u8 v3 (k * 8 + 4) (u8v ((l.take k).flatMap insB) ++ [.int .u8 op, .int .u8 rr, .int .u8 ss, .int .u8 0]) rfl H5 pv 4 (u8v (le 4 n32)) rfl HRL (u8v_one _) ?_ ?_ ?_)
        · unfold maxLen; omega
        · omega
        intro v6 w6 H6
        have HF : Hid (Holds e w6 (row v6 5 1 ((k + 1) * 8) (u8v ((l.take (k + 1)).flatMap insB)) :: R)) := Lib.hid (by
          rw [HTK.out, List.flatMap_append, List.flatMap_singleton, HBY.out, u8v_append, u8v_append, HU.out]
          have e1 : (k + 1) * 8 = k * 8 + 4 + 4 := by omega
          rw [e1]
          exact H6.re 3 [0])
        clear H5 HRL H6
        go_wp2_with fail
        go_roundw
        case rel => exact ⟨k + 1, v6, rfl, by omega, by go_num, HALL, HF.out⟩
        case measure => simp [Go.RowKit.intOf]; omega
    · obtain rfl : len = k := by omega
      have HF : Hid (rE = 0 ∧ rB = l.flatMap insB) := Lib.hid (by
        have hyes : l.all mayI = true := by
          rw [List.all_eq_true]
          intro y hy
          exact hall.out y (by rw [List.take_of_length_le (by rw [HLEN.out]; exact Nat.le_refl _)]; exact hy)
        rw [← HE.out, ← HB.out]
        unfold putE putB
        rw [hyes]
        exact ⟨rfl, rfl⟩)
      have HH := Lib.hid HX
      clear HX
      go_wp2_with fail
      go_ret2
      obtain ⟨q1, q2⟩ := HF.out
      refine ⟨ov, by rw [q1]; rfl, ?_⟩
      rw [q2]
      have h := HH.out
      rw [List.take_of_length_le (by rw [HLEN.out]; exact Nat.le_refl _)] at h
      unfold bts
      rw [insB_lens, HLEN.out]
      exact h
end
end Go.Proofs.YtjbphdjheklhbaaGreat

/-
  Package cpu: what a cpu tells; layer 48's example.
-/
namespace Go.Proofs.YtjbphdjheklhbaaGreat
open Go.RowKit

def lvL : List InsS := [⟨1, 0, 0, 5⟩, ⟨2, 0, 0, 2⟩, ⟨0, 0, 0, 0⟩]
def lvO (v : Value) : List OpS := [⟨0, 7, 0, 0, .slice none 0 0, []⟩, ⟨4, 0, 0, 0, v, putB lvL⟩]
def lvC : CpS := ⟨[0, 0, 0, 0], 0, 0, false⟩
theorem lv_run (v : Value) (p q : Nat × Nat) : (runF 9 (runP [] (lvO v) [p, q]) lvC).1 = 3 ∧ (runF 9 (runP [] (lvO v) [p, q]) lvC).2.1 = 0 ∧ (runF 9 (runP [] (lvO v) [p, q]) lvC).2.2.1 = ⟨[12, 0, 0, 0], 16, 3, true⟩ := by
  refine ⟨?_, ?_, ?_⟩ <;> kernel_rfl

section
variable {e : Env} {w : World} {R : List HP} {m b : Nat} {M : List Pg} {C : CpS}
set_option maxRecDepth 100000 in
theorem cpuHalted (hC : C.r.length = 4) (H : Holds e w (cpH b C :: R)) : Calls Tryz.prog 8 #[.pointer (some ⟨b, 0, none⟩)] w (Ret e (.bool C.halted) (cpH b C :: R)) := by
  have c6 := cpH.cell H (cp_halted hC)
  generalize C.halted = x at *
  cases x
  · go_enter Tryz.func8, Tryz.ntmps8
    go_wp2_with fail
    go_ret
    exact ⟨rfl, H⟩
  · go_enter Tryz.func8, Tryz.ntmps8
    go_wp2_with fail
    go_ret
    exact ⟨rfl, H⟩
set_option maxRecDepth 100000 in
theorem cpuPC (hC : C.r.length = 4) (H : Holds e w (cpH b C :: R)) : Calls Tryz.prog 6 #[.pointer (some ⟨b, 0, none⟩)] w (Ret e (.int .u64 C.pc) (cpH b C :: R)) := by
  have c6 := cpH.cell H (cp_pc hC)
  generalize C.pc = x at *
  go_enter Tryz.func6, Tryz.ntmps6
  go_wp2_with fail
  go_ret
  exact ⟨rfl, H⟩
set_option maxRecDepth 100000 in
theorem cpuDone (hC : C.r.length = 4) (H : Holds e w (cpH b C :: R)) : Calls Tryz.prog 7 #[.pointer (some ⟨b, 0, none⟩)] w (Ret e (.int .i64 C.done) (cpH b C :: R)) := by
  have c6 := cpH.cell H (cp_done hC)
  generalize C.done = x at *
  go_enter Tryz.func7, Tryz.ntmps7
  go_wp2_with fail
  go_ret
  exact ⟨rfl, H⟩
set_option maxRecDepth 100000 in
theorem cpuRegs (hC : C.r.length = 4) (H : Holds e w (cpH b C :: R)) : Calls Tryz.prog 10 #[.pointer (some ⟨b, 0, none⟩)] w (Ret e (.agg (u64v C.r).toArray) (cpH b C :: R)) := by
  obtain ⟨r, pc, dn, hd⟩ := C
  obtain ⟨r0, r1, r2, r3, hr⟩ := list4 hC
  dsimp only at hr
  subst hr
  have hcb : ∀ j, w.cell? ⟨b, j, none⟩ = #[Value.int .u64 r0, .int .u64 r1, .int .u64 r2, .int .u64 r3, .int .u64 pc, .int .i64 dn, .bool hd][j]? := fun j => Holds.cells (c := #[Value.int .u64 r0, .int .u64 r1, .int .u64 r2, .int .u64 r3, .int .u64 pc, .int .i64 dn, .bool hd]) H j
  have H1 := H.alloc (.cells #[.int .u64 r0, .int .u64 r1, .int .u64 r2, .int .u64 r3] 37)
  have hlt := Holds.lt (o := .cells (CpS.cells ⟨[r0, r1, r2, r3], pc, dn, hd⟩).toArray 68 (0, 0)) H
  go_enter Tryz.func10, Tryz.ntmps10
  go_wp2_with fail
  refine bodyPost_at H1 fun w9 H9 => ?_
  have hc9 := H9.cells
  exact bodyPost_ret (v := .agg #[.int .u64 r0, .int .u64 r1, .int .u64 r2, .int .u64 r3]) (by simp [results, Tryz.results10, go_sem, hc9]) rfl ⟨rfl, H9.drop⟩

set_option maxRecDepth 100000 in
set_option maxHeartbeats 2000000 in
theorem lives48 (H : Holds e w R) : Calls Tryz.prog 12 #[] w (Ret e (.bool true) R) := by
  have CP : Hid (∀ w' blk X, Holds e w' (pts blk (.cells (lvL.flatMap InsS.cells).toArray 72 (0, 0)) :: X) → Calls Tryz.prog 26 #[.slice (some ⟨blk, 0, none⟩) 3 3] w' (RetEx e (fun v' : Value => .tuple #[v', .int .i64 0]) (fun v' => bts v' (putB lvL) :: X))) := Lib.hid fun w' blk X h' =>
    (cpuPut lvL (by decide) (by unfold lvL; simp) (.slice (some ⟨blk, 0, none⟩) 3 3) (fun w'' g => reads_op 3 4 rfl g) h').mono fun en w'' ⟨v', h1, h2⟩ => ⟨v', h1, h2.d1⟩
  have CN := Lib.hid fun w' X (h' : Holds e w' X) => modNew h'
  have CD : Hid (∀ w' m v blk X, Holds e w' (modH m [] :: pts blk (.cells ((lvO v).flatMap OpS.cells).toArray 48 (0, 0)) :: bts v (putB lvL) :: X) → Calls Tryz.prog 15 #[.pointer (some ⟨m, 0, none⟩), .slice (some ⟨blk, 0, none⟩) 2 2] w' (RetEx e (fun x : Value × (Nat × Nat) × (Nat × Nat) => x.1) (fun x => modH m (runP [] (lvO v) [x.2.1, x.2.2]) :: X))) := Lib.hid fun w' m v blk X h' => by
    refine (modDoes (lvO v) (by simp [lvO]) (.slice (some ⟨blk, 0, none⟩) 2 2) (fun w'' g => reads_op 2 5 rfl g) (fun o ho => ?_) (fun o ho => ?_) h').mono fun en w'' ⟨x, h1, h2⟩ => ?_
    · simp only [lvO, List.mem_cons, List.not_mem_nil, or_false] at ho
      rcases ho with rfl | rfl
      · exact .inl rfl
      · exact .inr (.inr rfl)
    · simp only [lvO, List.mem_cons, List.not_mem_nil, or_false] at ho
      rcases ho with rfl | rfl
      · exact ⟨by show 0 < 18446744073709551616; decide, fun w'' _ => reads_none _ _, by simp⟩
      · exact ⟨by show 0 < 18446744073709551616; decide, fun w'' g => bts.reads g.drop, by show (putB lvL).length ≤ _; decide⟩
    · obtain ⟨v', ps⟩ := x
      have hl : ps.length = 2 := h2.purE
      match ps, hl with
      | [p, q], _ => exact ⟨(v', p, q), h1, h2.re 5 [2]⟩
  have CNw : Hid (∀ w' X, Holds e w' X → Calls Tryz.prog 17 #[.int .u64 0, .slice none 0 0] w' (RetEx e (fun b : Nat => .pointer (some ⟨b, 0, none⟩)) (fun b => cpH b lvC :: X))) := Lib.hid fun w' X h' => cpuNew 0 [] (.slice none 0 0) (fun w'' _ => reads_none _ _) h'
  have CF := Lib.hid fun w' m => cpuFlat (w := w') (m := m)
  have CR : Hid (∀ w' b m v p q X, Holds e w' (cpH b lvC :: modH m (runP [] (lvO v) [p, q]) :: X) → Calls Tryz.prog 4 #[.pointer (some ⟨b, 0, none⟩), coreV m, .int .i64 9] w' (Ret e (.tuple #[.int .i64 3, .int .i64 0]) (cpH b ⟨[12, 0, 0, 0], 16, 3, true⟩ :: X))) := Lib.hid fun w' b m v p q X h' => by
    obtain ⟨l1, l2, l3⟩ := lv_run v p q
    have h1 := cpuRun (C := lvC) ⟨rfl, by simp [lvC], by decide⟩ 9 (by omega) (by omega) (by decide) h'
    rw [show ((9 : Int).toNat) = 9 from rfl, l1, l2, l3] at h1
    exact retC h1 fun w'' g => g.d1
  have CH : Hid (∀ w' b X, Holds e w' (cpH b ⟨[12, 0, 0, 0], 16, 3, true⟩ :: X) → Calls Tryz.prog 8 #[.pointer (some ⟨b, 0, none⟩)] w' (Ret e (.bool true) (cpH b ⟨[12, 0, 0, 0], 16, 3, true⟩ :: X))) := Lib.hid fun w' b X h' => cpuHalted rfl h'
  have CG : Hid (∀ w' b X, Holds e w' (cpH b ⟨[12, 0, 0, 0], 16, 3, true⟩ :: X) → Calls Tryz.prog 10 #[.pointer (some ⟨b, 0, none⟩)] w' (Ret e (.agg #[.int .u64 12, .int .u64 0, .int .u64 0, .int .u64 0]) (cpH b ⟨[12, 0, 0, 0], 16, 3, true⟩ :: X))) := Lib.hid fun w' b X h' => cpuRegs rfl h'
  unfold coreV memV at *
  go_enter Tryz.func12, Tryz.ntmps12
  go_wp2_with fail
  refine (CP.out _ _ _ (H.alloc (.cells (lvL.flatMap InsS.cells).toArray 72))).mono ?_
  rintro en w1 ⟨pv, rfl, H1⟩
  obtain ⟨pa, pc, rfl⟩ := (bts.reads H1).shape
  clear CP
  go_wp2_with fail
  refine (CN.out _ _ H1).mono ?_
  rintro en w2 ⟨m, rfl, H2⟩
  clear CN H1
  go_wp2_with fail
  refine (CD.out _ _ _ _ _ (H2.alloc (.cells ((lvO (.slice pa (putB lvL).length pc)).flatMap OpS.cells).toArray 48)).swap).mono ?_
  rintro en w3 ⟨⟨v', p, q⟩, rfl, H3⟩
  dsimp only at H3
  clear CD H2
  go_wp2_with fail
  refine (CNw.out _ _ H3).mono ?_
  rintro en w4 ⟨b, rfl, H4⟩
  clear CNw H3
  go_wp2_with fail
  refine (CF.out _ _).mono ?_
  rintro en w5 ⟨rfl, n5, rfl⟩
  go_wp2_with fail
  refine (CR.out _ _ _ _ _ _ _ (H4.drewN n5)).mono ?_
  rintro en w6 ⟨rfl, H6⟩
  clear CR H4 CF
  go_wp2_with fail
  refine (CH.out _ _ _ H6).mono ?_
  rintro en w7 ⟨rfl, H7⟩
  clear CH H6
  go_wp2_with fail
  refine (CG.out _ _ _ H7).mono ?_
  rintro en w8 ⟨rfl, H8⟩
  have HZ := Lib.hid H8.drop
  have hidx : ∀ w, (Instr.index 37 (.agg #[.int .u64 12, .int .u64 0, .int .u64 0, .int .u64 0]) (.int .i64 0)).run Tryz.prog w = .ok (.int .u64 12) w := fun w => by kernel_rfl
  clear CG H7 H8
  go_wp2_with fail
  go_ret
  exact ⟨rfl, HZ.out⟩
end
end Go.Proofs.YtjbphdjheklhbaaGreat

/-
  Layer 48: the reference's instructions, and numbers as bytes.
-/
namespace Go.Proofs.YtjbphdjheklhbaaGreat
open Go.RowKit

theorem convB {w : World} {a : Option Addr} {c : Nat} {l : List UInt8} (h : RdB w (.slice a l.length c) l) : (convert 23 9 (.slice a l.length c)).run Tryz.prog w = .ok (.string ⟨l.toArray⟩) w := by
  by_cases hl : 0 < l.length
  · obtain ⟨g, o, rfl, hc⟩ := Reads.at h (by omega)
    refine run_convert_bytes_back (P := Tryz.prog) _ _ _ 5 ⟨g, o, none⟩ _ l (by kernel_rfl) (by kernel_rfl) (by kernel_rfl) ?_
    intro j hj
    rw [Addr.add_at]
    refine hc j _ ?_
    simp [u8v, hj]
  · obtain rfl : l = [] := List.eq_nil_of_length_eq_zero (by omega)
    cases a with
    | none => kernel_rfl
    | some a => exact run_convert_bytes_back (P := Tryz.prog) _ _ _ 5 a _ [] (by kernel_rfl) (by kernel_rfl) (by kernel_rfl) (fun j hj => by simp at hj)
section
variable {e : Env} {w : World} {R : List HP}
set_option maxRecDepth 100000 in
theorem ref48May (x : InsS) (H : Holds e w R) : Calls Tryz.prog 65 #[x.val] w (Ret e (.bool (mayI x)) R) := by
  obtain ⟨op, r, s, imm⟩ := x
  have H1 := (H.alloc (.cells #[.int .i64 op, .int .i64 r, .int .i64 s, .int .i32 imm] 88)).drop
  have HH := Lib.hid H1
  clear H H1
  unfold InsS.val
  go_enter Tryz.func65, Tryz.ntmps65
  go_wp2_with fail
  all_goals go_ret
  all_goals
    refine ⟨congrArg (fun b => Ending.returned (Value.bool b)) (?_ : _ = mayI ⟨op, r, s, imm⟩), HH.out⟩
    unfold mayI
    dsimp only
    rw [Bool.eq_iff_iff]
    simp only [Bool.and_eq_true, decide_eq_true_eq, Bool.false_eq_true, false_iff]
    try omega
set_option maxRecDepth 100000 in
theorem ref48Wide (x : InsS) (h0 : -2147483648 ≤ x.imm) (h1 : x.imm ≤ 2147483647) (H : Holds e w R) : Calls Tryz.prog 34 #[x.val] w (Ret e (.int .u64 (wideN x.imm)) R) := by
  obtain ⟨op, r, s, imm⟩ := x
  have H1 := (H.alloc (.cells #[.int .i64 op, .int .i64 r, .int .i64 s, .int .i32 imm] 88)).drop
  have HH := Lib.hid H1
  dsimp only at h0 h1
  clear H H1
  unfold InsS.val
  dsimp only
  by_cases hs : 0 ≤ imm
  · obtain ⟨n, rfl⟩ : ∃ n : Nat, imm = n := ⟨imm.toNat, by omega⟩
    have hw : wideN (n : Int) = n := by unfold wideN; omega
    have d0 : decide ((0 : Int) ≤ (n : Int)) = true := by simp
    rw [hw]
    go_enter Tryz.func34, Tryz.ntmps34
    go_wp2_with fail
    go_ret
    exact ⟨rfl, HH.out⟩
  · obtain ⟨n, hn⟩ : ∃ n : Nat, imm = -(n : Int) := ⟨(-imm).toNat, by omega⟩
    have d0 : decide ((0 : Int) ≤ imm) = false := decide_eq_false hs
    have i1 : -imm = (n : Int) := by omega
    obtain ⟨W, hW⟩ : ∃ W, wideN imm = W := ⟨_, rfl⟩
    have hw : IntKind.u64.wrap ((0 : Int) - (n : Int)) = (W : Int) := by rw [← hW, IntKind.wrap_u64]; unfold wideN; omega
    have hw2 : IntKind.u64.wrap (-(n : Int)) = (W : Int) := by rw [← hW, IntKind.wrap_u64]; unfold wideN; omega
    have nb : n ≤ 2147483648 ∧ 1 ≤ n := by omega
    obtain ⟨nb1, nb2⟩ := nb
    rw [hW]
    clear hn hW
    go_enter Tryz.func34, Tryz.ntmps34
    go_wp2_with fail
    go_ret
    exact ⟨rfl, HH.out⟩
set_option maxRecDepth 100000 in
set_option maxHeartbeats 1000000 in
theorem ref01Put (k : Nat) (hk : k ≤ 8) (n : Nat) (hn : n < 18446744073709551616) (H : Holds e w R) : Calls Tryz.prog 36 #[.int .i64 k, .int .u64 n] w (RetEx e (fun v : Value => v) (fun v => bts v (le k n) :: R)) := by
  go_enter Tryz.func36, Tryz.ntmps36
  go_wp2_with fail
  go_loopw [1, 5, 6] (fun z o i wr => ∃ (j : Nat) (ov : Value), ov = o ∧ j ≤ k ∧ i = .int .i64 (j : Nat) ∧ z = .int .u64 ((n / 256 ^ j : Nat) : Int) ∧ Holds e wr (row ov 5 1 j (u8v (le j n)) :: R)) (fun _ _ i _ => k - (Go.RowKit.intOf i).toNat)
  case atStart => exact ⟨0, _, rfl, by omega, rfl, by simp, row.nil _ 1 H⟩
  case round =>
    clear H
    obtain ⟨j, ov, rfl, hj, rfl, rfl, HX⟩ := hrel
    by_cases hlt : j < k
    · have hx : n / 256 ^ j < 18446744073709551616 := Nat.lt_of_le_of_lt (Nat.div_le_self _ _) hn
      have hb := byteAt_toNat n j
      have hnx : n / 256 ^ (j + 1) = n / 256 ^ j / 256 := by rw [Nat.pow_succ, Nat.div_div_eq_div_mul]
      have hle := le_succ j n
      obtain ⟨y, hy⟩ : ∃ y, n / 256 ^ (j + 1) = y := ⟨_, rfl⟩
      have HY := Lib.hid hy
      rw [hy] at hnx
      generalize n / 256 ^ j = x at *
      obtain ⟨t, ht⟩ : ∃ t, x % 256 = t := ⟨_, rfl⟩
      have i1 : (x : Int) % 256 = (t : Int) := by omega
      have i2 : (x : Int) / 256 = (y : Int) := by omega
      rw [ht] at hb
      have tb : t < 256 := by omega
      have HA : Holds e (wr.alloc (.cells #[.int .u8 t] 5)) (row ov 5 1 j (u8v (le j n)) :: R) := (HX.alloc _).drop
      have HRL := reads_lits wr [.int .u8 t] 5 1 1 rfl
      have HLE := Lib.hid hle
      have HBB := Lib.hid hb
      clear HX hle hb ht hnx hy
      go_wp2_with (at_builtin; refine wpList_append_sl rfl (.tmp 12) _ _ rfl 5 1 1 elem_u8 ov j (u8v (le j n)) rfl HA (.slice (some ⟨wr.heap.size, 0, none⟩) 1 1) 1 [.int .u8 t] rfl HRL (by simp [Value.oneCell']) ?_ ?_ ?_)
      · unfold maxLen; omega
      · omega
      intro v5 w5 H5
      have HF : Hid (Holds e w5 (row v5 5 1 (j + 1) (u8v (le (j + 1) n)) :: R)) := Lib.hid (by
        rw [HLE.out, u8v_append]
        have e1 : u8v [byteAt n j] = [.int .u8 t] := by simp [u8v, HBB.out]
        rw [e1]
        exact H5)
      clear HA HRL H5
      go_wp2_with fail
      go_roundw
      case rel => exact ⟨j + 1, v5, rfl, by omega, by go_num, by rw [HY.out], HF.out⟩
      case measure => simp [Go.RowKit.intOf]; omega
    · obtain rfl : k = j := by omega
      have HH := Lib.hid HX
      clear HX
      go_wp2_with fail
      go_ret
      exact ⟨ov, rfl, by unfold bts; rw [le_length]; exact HH.out⟩
theorem unle_step {bs : List UInt8} {p k : Nat} (h : p < bs.length) : unle ((bs.drop p).take (k + 1)) = 256 * unle ((bs.drop (p + 1)).take k) + (bs.getD p 0).toNat := by
  rw [List.drop_eq_getElem_cons h, List.take_succ_cons, unle, Nat.add_comm]
  simp [List.getD, List.getElem?_eq_getElem h]
set_option maxRecDepth 100000 in
set_option maxHeartbeats 1000000 in
theorem ref01Get (l : List UInt8) (at' k : Nat) (hat : at' + k ≤ l.length) (hk : 1 ≤ k) (hk8 : k ≤ 8) (hl : l.length ≤ 100000) (v : Value) (hr : RdB w v l) :
    Calls Tryz.prog 35 #[v, .int .i64 at', .int .i64 k] w (Quiet w (.int .u64 (unle ((l.drop at').take k)))) := by
  obtain ⟨ad, c, rfl⟩ := hr.shape
  obtain ⟨g, o, rfl, hrr⟩ := hr.at (by omega)
  obtain ⟨len, hlen⟩ : ∃ len, l.length = len := ⟨_, rfl⟩
  have HLEN := Lib.hid hlen
  rw [hlen] at hat hl ⊢
  have hk1 : (k : Int) - 1 = ((k - 1 : Nat) : Int) := by omega
  obtain ⟨k1, hkk⟩ : ∃ k1, k - 1 = k1 := ⟨_, rfl⟩
  rw [hkk] at hk1
  clear hlen hr
  go_enter Tryz.func35, Tryz.ntmps35
  go_wp2_with fail
  go_loopw [7, 8] (fun x i wr => ∃ (j : Nat) (z : Int), j ≤ k ∧ z = (j : Int) - 1 ∧ i = .int .i64 z ∧ x = .int .u64 (unle ((l.drop (at' + j)).take (k - j))) ∧ ∃ q, wr = w.drewN q) (fun _ i _ => ((Go.RowKit.intOf i) + 1).toNat)
  case atStart => exact ⟨k, (k1 : Int), by omega, by omega, rfl, by simp [unle], 0, rfl⟩
  case round =>
    obtain ⟨j, z, hj, hzj, rfl, rfl, q, rfl⟩ := hrel
    by_cases hj0 : j = 0
    · subst hj0
      obtain rfl : z = -1 := by omega
      have hu : unle ((l.drop (at' + 0)).take (k - 0)) = unle ((l.drop at').take k) := rfl
      rw [hu]
      generalize unle ((l.drop at').take k) = U at *
      clear hzj hu hrr
      go_wp2_with fail
      go_ret
      exact ⟨rfl, _, rfl⟩
    · obtain ⟨j', rfl⟩ : ∃ j', j = j' + 1 := ⟨j - 1, by omega⟩
      obtain rfl : z = (j' : Int) := by omega
      obtain ⟨p, hp⟩ : ∃ p, at' + j' = p := ⟨_, rfl⟩
      have c0 : w.cell? ⟨g, o + p, none⟩ = some (.int .u8 ((l.getD p 0).toNat : Int)) := hrr p _ (u8v_get (by rw [HLEN.out]; omega))
      have i1 : (at' : Int) + (j' : Int) = (p : Int) := by omega
      have hub := unle_lt ((l.drop (at' + (j' + 1))).take (k - (j' + 1)))
      have hlj : ((l.drop (at' + (j' + 1))).take (k - (j' + 1))).length = k - (j' + 1) := by rw [List.length_take, List.length_drop, HLEN.out]; omega
      rw [hlj] at hub
      have hst : unle ((l.drop (at' + j')).take (k - j')) = 256 * unle ((l.drop (at' + (j' + 1))).take (k - (j' + 1))) + (l.getD p 0).toNat := by
        rw [hp, show k - j' = (k - (j' + 1)) + 1 by omega, unle_step (by rw [HLEN.out]; omega), show at' + (j' + 1) = p + 1 by omega]
      have hx := (l.getD p 0).toNat_lt
      generalize (l.getD p 0).toNat = x at *
      generalize unle ((l.drop (at' + (j' + 1))).take (k - (j' + 1))) = u at *
      have hu56 : u < 72057594037927936 := by
        have h2 : 256 ^ (k - (j' + 1)) ≤ 256 ^ 7 := Nat.pow_le_pow_right (by omega) (by omega)
        exact Nat.lt_of_lt_of_le hub (Nat.le_trans h2 (by decide))
      obtain ⟨v1, hv1⟩ : ∃ v1, 256 * u = v1 := ⟨_, rfl⟩
      have i2 : (256 : Int) * (u : Int) = (v1 : Int) := by omega
      obtain ⟨v2, hv2⟩ : ∃ v2, v1 + x = v2 := ⟨_, rfl⟩
      have i3 : (v1 : Int) + (x : Int) = (v2 : Int) := by omega
      rw [hv1, hv2] at hst
      have HST := Lib.hid hst
      have bv : v1 < 18446744073709551616 ∧ v2 < 18446744073709551616 := by omega
      obtain ⟨bv1, bv2⟩ := bv
      have bp : p < len := by omega
      clear hub hlj hzj hp hst hv1 hv2
      go_wp2_with fail
      go_roundw
      case rel => exact ⟨j', (j' : Int) - 1, by omega, rfl, by go_num, by rw [HST.out], _, rfl⟩
      case measure => simp [Go.RowKit.intOf]; try omega
theorem le_mod (k n : Nat) : le k (n % 256 ^ k) = le k n := by
  unfold le
  apply List.map_congr_left
  intro i hi
  have hik : i < k := List.mem_range.1 hi
  apply UInt8.toNat_inj.1
  rw [byteAt_toNat, byteAt_toNat]
  obtain ⟨d, rfl⟩ : ∃ d, k = i + 1 + d := ⟨k - (i + 1), by omega⟩
  have e1 : (256 : Nat) ^ (i + 1 + d) = 256 ^ i * (256 * 256 ^ d) := by rw [Nat.pow_add, Nat.pow_succ]; rw [Nat.mul_assoc]
  rw [e1, Nat.mod_mul_right_div_self]
  rw [Nat.mod_mul_right_mod]
end
end Go.Proofs.YtjbphdjheklhbaaGreat
