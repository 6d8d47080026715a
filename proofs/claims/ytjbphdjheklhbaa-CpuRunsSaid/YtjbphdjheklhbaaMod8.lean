/-
  Package model: does, by the kind of the op.
-/
import Derived.Test.YtjbphdjheklhbaaMod7
namespace Go.Proofs.Ytjbphdjheklhbaa
open Go.RowKit

/-- An op. -/
structure OpS where
  kind : Nat
  perm : Int
  n : Int
  a : Nat
  d : Value
  ds : List UInt8
def OpS.val (o : OpS) : Value := opVal o.kind o.perm o.n o.a o.d
def OpS.cells (o : OpS) : List Value := [.int .i64 o.kind, .int .i64 o.perm, .int .i64 o.n, .int .u64 o.a, o.d]
/-- What an op of one of the kinds Map, Protect, Store does. -/
def opE (M : List Pg) (o : OpS) : Nat := if o.kind = 0 then mapE M o.a o.perm else if o.kind = 2 then proE M o.a o.perm else chk M o.a o.ds.length 2
def stoP (M : List Pg) (a : Nat) (ds : List UInt8) : List Pg := if chk M a ds.length 2 = 0 then wrb M a ds else M
def opP (M : List Pg) (o : OpS) (p : Nat × Nat) : List Pg := if o.kind = 0 then mapP M o.a o.perm p else if o.kind = 2 then proP M o.a o.perm else stoP M o.a o.ds
/-- An op that may be told, whose bytes are read wherever R holds. -/
structure OpOk (e : Env) (R : List HP) (o : OpS) : Prop where
  a : o.a < 18446744073709551616
  rd : ∀ w', Holds e w' R → RdB w' o.d o.ds
  len : o.ds.length ≤ 4611686018427387904

section
variable {e : Env} {w : World} {R : List HP} {m : Nat} {M : List Pg}
def ansZ : Obj := .cells #[.int .i64 0, .int .i64 0, .slice none 0 0] 104
set_option maxRecDepth 100000 in
set_option maxHeartbeats 1000000 in
theorem doesMap (o : OpS) (hk : o.kind = 0) (hO : OpOk e R o) (H : Holds e w (modH m M :: R)) :
    Calls Try.prog 44 #[.pointer (some ⟨m, 0, none⟩), o.val] w
      (RetEx e (fun _ : Nat × Nat => ansVal (mapE M o.a o.perm) (.slice none 0 0)) (fun p => modH m (mapP M o.a o.perm p) :: R)) := by
  obtain ⟨ad, c, l, hdv⟩ : ∃ ad c l, o.d = .slice ad c l := let ⟨ad, c, h⟩ := (hO.rd w H.drop).shape; ⟨ad, _, c, h⟩
  obtain ⟨kind, perm, n, a, d, ds⟩ := o
  simp only at hdv hk
  subst hdv hk
  have ha := hO.a
  have hrd := hO.rd
  have hlen := hO.len
  simp only at ha hrd hlen
  have H1 := (H.alloc (opObj 0 perm n a (.slice ad c l))).alloc ansZ
  rw [World.size_alloc] at H1
  have hc1 := H1.swap.cells
  generalize hbx : w.heap.size = bx at H1 hc1
  have CM : Hid (∀ w', Holds e w' (pts (bx + 1) ansZ :: pts bx (opObj 0 perm n a (.slice ad c l)) :: modH m M :: R) → Calls Try.prog 61 #[.pointer (some ⟨m, 0, none⟩), opVal 0 perm n a (.slice ad c l)] w' (RetEx e (fun _ : Nat × Nat => .int .i64 (mapE M a perm)) (fun p => pts (bx + 1) ansZ :: pts bx (opObj 0 perm n a (.slice ad c l)) :: modH m (mapP M a perm p) :: R))) := Lib.hid fun w' h =>
    (modMapped ha ⟨_, _, _, rfl⟩ (h.re 3 [2, 0, 1])).mono fun en w'' ⟨p, h1, h2⟩ => ⟨p, h1, h2.re 3 [1, 2, 0]⟩
  clear H
  unfold OpS.val opVal
  unfold opVal at CM
  dsimp only
  generalize mapE M a perm = E at *
  unfold opObj ansZ at H1
  go_enter Try.func44, Try.ntmps44
  go_wp2_with fail
  refine (CM.out _ H1).mono ?_
  rintro en w1 ⟨p, rfl, H2⟩
  unfold ansZ at H2
  have c5 := H2.cells
  have f5 := H2.frozen
  have H6 := ((H2.set 0 (.int .i64 (E : Int))).set 1 (.int .i64 0)).set 2 (.slice none 0 0)
  have HH := Lib.hid H6
  clear H6 H2 CM hc1
  try clear H1
  go_wp2_with fail
  refine bodyPost_at HH.out fun w9 H9 => ?_
  have hc9 := H9.cells
  exact bodyPost_ret (v := ansVal (E : Int) (.slice none 0 0)) (by simp [results, Try.results44, go_sem, ansVal, hc9]) rfl ⟨p, rfl, H9.drop.drop⟩
set_option maxRecDepth 100000 in
set_option maxHeartbeats 1000000 in
theorem doesPro (o : OpS) (hk : o.kind = 2) (hO : OpOk e R o) (H : Holds e w (modH m M :: R)) :
    Calls Try.prog 44 #[.pointer (some ⟨m, 0, none⟩), o.val] w
      (RetEx e (fun _ : Nat × Nat => ansVal (proE M o.a o.perm) (.slice none 0 0)) (fun _ => modH m (proP M o.a o.perm) :: R)) := by
  obtain ⟨ad, c, l, hdv⟩ : ∃ ad c l, o.d = .slice ad c l := let ⟨ad, c, h⟩ := (hO.rd w H.drop).shape; ⟨ad, _, c, h⟩
  obtain ⟨kind, perm, n, a, d, ds⟩ := o
  simp only at hdv hk
  subst hdv hk
  have ha := hO.a
  have hrd := hO.rd
  have hlen := hO.len
  simp only at ha hrd hlen
  have H1 := (H.alloc (opObj 2 perm n a (.slice ad c l))).alloc ansZ
  rw [World.size_alloc] at H1
  have hc1 := H1.swap.cells
  generalize hbx : w.heap.size = bx at H1 hc1
  have CM : Hid (∀ w', Holds e w' (pts (bx + 1) ansZ :: pts bx (opObj 2 perm n a (.slice ad c l)) :: modH m M :: R) → Calls Try.prog 63 #[.pointer (some ⟨m, 0, none⟩), opVal 2 perm n a (.slice ad c l)] w' (RetEx e (fun _ : Nat × Nat => .int .i64 (proE M a perm)) (fun _ => pts (bx + 1) ansZ :: pts bx (opObj 2 perm n a (.slice ad c l)) :: modH m (proP M a perm) :: R))) := Lib.hid fun w' h =>
    (modProtected ha ⟨_, _, _, rfl⟩ (h.re 3 [2, 0, 1])).mono fun en w'' ⟨h1, h2⟩ => ⟨(0, 0), h1, h2.re 3 [1, 2, 0]⟩
  clear H
  unfold OpS.val opVal
  unfold opVal at CM
  dsimp only
  generalize proE M a perm = E at *
  unfold opObj ansZ at H1
  go_enter Try.func44, Try.ntmps44
  go_wp2_with fail
  refine (CM.out _ H1).mono ?_
  rintro en w1 ⟨p, rfl, H2⟩
  unfold ansZ at H2
  have c5 := H2.cells
  have f5 := H2.frozen
  have H6 := ((H2.set 0 (.int .i64 (E : Int))).set 1 (.int .i64 0)).set 2 (.slice none 0 0)
  have HH := Lib.hid H6
  clear H6 H2 CM hc1
  try clear H1
  go_wp2_with fail
  refine bodyPost_at HH.out fun w9 H9 => ?_
  have hc9 := H9.cells
  exact bodyPost_ret (v := ansVal (E : Int) (.slice none 0 0)) (by simp [results, Try.results44, go_sem, ansVal, hc9]) rfl ⟨p, rfl, H9.drop.drop⟩
set_option maxRecDepth 100000 in
set_option maxHeartbeats 1000000 in
theorem doesSto (o : OpS) (hk : o.kind = 4) (hO : OpOk e R o) (H : Holds e w (modH m M :: R)) :
    Calls Try.prog 44 #[.pointer (some ⟨m, 0, none⟩), o.val] w
      (RetEx e (fun _ : Nat × Nat => ansVal (chk M o.a o.ds.length 2) (.slice none 0 0)) (fun _ => modH m (stoP M o.a o.ds) :: R)) := by
  obtain ⟨ad, c, l, hdv⟩ : ∃ ad c l, o.d = .slice ad c l := let ⟨ad, c, h⟩ := (hO.rd w H.drop).shape; ⟨ad, _, c, h⟩
  obtain ⟨kind, perm, n, a, d, ds⟩ := o
  simp only at hdv hk
  subst hdv hk
  have ha := hO.a
  have hrd := hO.rd
  have hlen := hO.len
  simp only at ha hrd hlen
  have H1 := (H.alloc (opObj 4 perm n a (.slice ad c l))).alloc ansZ
  rw [World.size_alloc] at H1
  have hc1 := H1.swap.cells
  generalize hbx : w.heap.size = bx at H1 hc1
  have CM : Hid (∀ w', Holds e w' (pts (bx + 1) ansZ :: pts bx (opObj 4 perm n a (.slice ad c l)) :: modH m M :: R) → Calls Try.prog 65 #[.pointer (some ⟨m, 0, none⟩), opVal 4 perm n a (.slice ad c l)] w' (RetEx e (fun _ : Nat × Nat => .int .i64 (chk M a ds.length 2)) (fun _ => pts (bx + 1) ansZ :: pts bx (opObj 4 perm n a (.slice ad c l)) :: modH m (stoP M a ds) :: R))) := Lib.hid fun w' h =>
    (modStored ha (fun w'' g => hrd w'' g.drop.drop) hlen (h.re 3 [2, 0, 1])).mono fun en w'' ⟨h1, h2⟩ => ⟨(0, 0), h1, h2.re 3 [1, 2, 0]⟩
  clear H
  unfold OpS.val opVal
  unfold opVal at CM
  dsimp only
  generalize chk M a ds.length 2 = E at *
  unfold opObj ansZ at H1
  go_enter Try.func44, Try.ntmps44
  go_wp2_with fail
  refine (CM.out _ H1).mono ?_
  rintro en w1 ⟨p, rfl, H2⟩
  unfold ansZ at H2
  have c5 := H2.cells
  have f5 := H2.frozen
  have H6 := ((H2.set 0 (.int .i64 (E : Int))).set 1 (.int .i64 0)).set 2 (.slice none 0 0)
  have HH := Lib.hid H6
  clear H6 H2 CM hc1
  try clear H1
  go_wp2_with fail
  refine bodyPost_at HH.out fun w9 H9 => ?_
  have hc9 := H9.cells
  exact bodyPost_ret (v := ansVal (E : Int) (.slice none 0 0)) (by simp [results, Try.results44, go_sem, ansVal, hc9]) rfl ⟨p, rfl, H9.drop.drop⟩
set_option maxRecDepth 100000 in
set_option maxHeartbeats 1000000 in
theorem doesRd3 (o : OpS) (hk : o.kind = 3) (hn0 : -9223372036854775808 ≤ o.n) (hn1 : o.n ≤ 9223372036854775807) (hO : OpOk e R o) (H : Holds e w (modH m M :: R)) :
    Calls Try.prog 44 #[.pointer (some ⟨m, 0, none⟩), o.val] w
      (RetEx e (fun v : Value => ansVal (chk M o.a o.n 1) v) (fun v => bts v (rdE M o.a o.n 1) :: modH m M :: R)) := by
  obtain ⟨ad, c, l, hdv⟩ : ∃ ad c l, o.d = .slice ad c l := let ⟨ad, c, h⟩ := (hO.rd w H.drop).shape; ⟨ad, _, c, h⟩
  obtain ⟨kind, perm, n, a, d, ds⟩ := o
  simp only at hdv hk
  subst hdv hk
  have ha := hO.a
  have hrd := hO.rd
  have hlen := hO.len
  simp only at ha hrd hlen
  have H1 := (H.alloc (opObj 3 perm n a (.slice ad c l))).alloc ansZ
  rw [World.size_alloc] at H1
  have hc1 := H1.swap.cells
  generalize hbx : w.heap.size = bx at H1 hc1
  simp only at hn0 hn1
  have CM : Hid (∀ w', Holds e w' (pts (bx + 1) ansZ :: pts bx (opObj 3 perm n a (.slice ad c l)) :: modH m M :: R) → Calls Try.prog 64 #[.pointer (some ⟨m, 0, none⟩), opVal 3 perm n a (.slice ad c l), .int .i64 1] w' (RetEx e (fun v : Value => ansVal (chk M a n 1) v) (fun v => pts (bx + 1) ansZ :: pts bx (opObj 3 perm n a (.slice ad c l)) :: bts v (rdE M a n 1) :: modH m M :: R))) := Lib.hid fun w' h =>
    (modRead ha hn0 hn1 1 (by omega) ⟨_, _, _, rfl⟩ (h.re 3 [2, 0, 1])).mono fun en w'' ⟨v, h1, h2⟩ => ⟨v, h1, h2.re 4 [2, 3, 0, 1]⟩
  clear H
  unfold OpS.val opVal
  unfold opVal at CM
  dsimp only
  generalize chk M a n 1 = E at *
  generalize rdE M a n 1 = out at *
  unfold opObj ansZ at H1
  go_enter Try.func44, Try.ntmps44
  go_wp2_with fail
  refine (CM.out _ H1).mono ?_
  rintro en w1 ⟨v, rfl, H2⟩
  obtain ⟨av, cv, hv⟩ := (bts.reads H2.p2).shape
  obtain ⟨lv, hlv⟩ : ∃ lv, out.length = lv := ⟨_, rfl⟩
  rw [hlv] at hv
  clear hlv
  subst hv
  unfold ansVal
  unfold ansZ at H2
  have c5 := H2.cells
  have f5 := H2.frozen
  have H6 := ((H2.set 0 (.int .i64 (E : Int))).set 1 (.int .i64 0)).set 2 (.slice av lv cv)
  have HH := Lib.hid H6
  clear H6 H2 CM hc1 H1
  go_wp2_with fail
  refine bodyPost_at HH.out fun w9 H9 => ?_
  have hc9 := H9.cells
  exact bodyPost_ret (v := ansVal (E : Int) (.slice av lv cv)) (by simp [results, Try.results44, go_sem, ansVal, hc9]) rfl ⟨_, rfl, H9.drop.drop⟩
set_option maxRecDepth 100000 in
set_option maxHeartbeats 1000000 in
theorem doesRd5 (o : OpS) (hk : o.kind = 5) (hn0 : -9223372036854775808 ≤ o.n) (hn1 : o.n ≤ 9223372036854775807) (hO : OpOk e R o) (H : Holds e w (modH m M :: R)) :
    Calls Try.prog 44 #[.pointer (some ⟨m, 0, none⟩), o.val] w
      (RetEx e (fun v : Value => ansVal (chk M o.a o.n 4) v) (fun v => bts v (rdE M o.a o.n 4) :: modH m M :: R)) := by
  obtain ⟨ad, c, l, hdv⟩ : ∃ ad c l, o.d = .slice ad c l := let ⟨ad, c, h⟩ := (hO.rd w H.drop).shape; ⟨ad, _, c, h⟩
  obtain ⟨kind, perm, n, a, d, ds⟩ := o
  simp only at hdv hk
  subst hdv hk
  have ha := hO.a
  have hrd := hO.rd
  have hlen := hO.len
  simp only at ha hrd hlen
  have H1 := (H.alloc (opObj 5 perm n a (.slice ad c l))).alloc ansZ
  rw [World.size_alloc] at H1
  have hc1 := H1.swap.cells
  generalize hbx : w.heap.size = bx at H1 hc1
  simp only at hn0 hn1
  have CM : Hid (∀ w', Holds e w' (pts (bx + 1) ansZ :: pts bx (opObj 5 perm n a (.slice ad c l)) :: modH m M :: R) → Calls Try.prog 64 #[.pointer (some ⟨m, 0, none⟩), opVal 5 perm n a (.slice ad c l), .int .i64 4] w' (RetEx e (fun v : Value => ansVal (chk M a n 4) v) (fun v => pts (bx + 1) ansZ :: pts bx (opObj 5 perm n a (.slice ad c l)) :: bts v (rdE M a n 4) :: modH m M :: R))) := Lib.hid fun w' h =>
    (modRead ha hn0 hn1 4 (by omega) ⟨_, _, _, rfl⟩ (h.re 3 [2, 0, 1])).mono fun en w'' ⟨v, h1, h2⟩ => ⟨v, h1, h2.re 4 [2, 3, 0, 1]⟩
  clear H
  unfold OpS.val opVal
  unfold opVal at CM
  dsimp only
  generalize chk M a n 4 = E at *
  generalize rdE M a n 4 = out at *
  unfold opObj ansZ at H1
  go_enter Try.func44, Try.ntmps44
  go_wp2_with fail
  refine (CM.out _ H1).mono ?_
  rintro en w1 ⟨v, rfl, H2⟩
  obtain ⟨av, cv, hv⟩ := (bts.reads H2.p2).shape
  obtain ⟨lv, hlv⟩ : ∃ lv, out.length = lv := ⟨_, rfl⟩
  rw [hlv] at hv
  clear hlv
  subst hv
  unfold ansVal
  unfold ansZ at H2
  have c5 := H2.cells
  have f5 := H2.frozen
  have H6 := ((H2.set 0 (.int .i64 (E : Int))).set 1 (.int .i64 0)).set 2 (.slice av lv cv)
  have HH := Lib.hid H6
  clear H6 H2 CM hc1 H1
  go_wp2_with fail
  refine bodyPost_at HH.out fun w9 H9 => ?_
  have hc9 := H9.cells
  exact bodyPost_ret (v := ansVal (E : Int) (.slice av lv cv)) (by simp [results, Try.results44, go_sem, ansVal, hc9]) rfl ⟨_, rfl, H9.drop.drop⟩
end
end Go.Proofs.Ytjbphdjheklhbaa
