/-
  Package model: Map.
-/
import Derived.Test.YtjbphdjheklhbaaMod5
namespace Go.Proofs.Ytjbphdjheklhbaa
open Go.RowKit

/-- The pages with one more. -/
def insPg (M : List Pg) (x : Pg) : List Pg := M.filter (fun y => decide (y.pg < x.pg)) ++ x :: M.filter (fun y => decide (x.pg < y.pg))
def mapE (M : List Pg) (a : Nat) (perm : Int) : Nat := if atE a ≠ 0 then atE a else if mayP perm = false then 1 else if (fnd M (pgOf a)).isSome then 7 else 0
def newPg (a : Nat) (perm : Int) (pb gb : Nat) : Pg := ⟨pgOf a, perm.toNat, List.replicate 4096 0, pb, gb⟩
/-- The pages behind Map; the new page's blocks. -/
def mapP (M : List Pg) (a : Nat) (perm : Int) (p : Nat × Nat) : List Pg := if mapE M a perm = 0 then insPg M (newPg a perm p.1 p.2) else M

theorem mapP_no {M : List Pg} {a : Nat} {perm : Int} (h : mapE M a perm ≠ 0) (p : Nat × Nat) : mapP M a perm p = M := if_neg h
theorem mapP_yes {M : List Pg} {a : Nat} {perm : Int} (h : mapE M a perm = 0) (p : Nat × Nat) : mapP M a perm p = insPg M (newPg a perm p.1 p.2) := if_pos h
theorem find?_filterM {M : List Pg} {p q : Pg → Bool} (h : ∀ y ∈ M, q y = true → p y = true) : (M.filter p).find? q = M.find? q := by
  induction M with
  | nil => rfl
  | cons y M ih =>
    have ih' := ih fun z hz => h z (List.mem_cons_of_mem _ hz)
    by_cases hq : q y = true
    · have hp := h y (List.mem_cons_self ..) hq
      rw [List.filter_cons_of_pos hp, List.find?_cons_of_pos hq, List.find?_cons_of_pos hq]
    · rw [List.find?_cons_of_neg hq]
      by_cases hp : p y = true
      · rw [List.filter_cons_of_pos hp, List.find?_cons_of_neg hq, ih']
      · rw [List.filter_cons_of_neg hp, ih']
theorem fnd_ins {M : List Pg} (x : Pg) (k : Nat) : fnd (insPg M x) k = if k = x.pg then some x else fnd M k := by
  unfold fnd insPg
  rw [List.find?_append]
  by_cases hk : k = x.pg
  · subst hk
    rw [if_pos rfl]
    have h1 : (M.filter (fun y => decide (y.pg < x.pg))).find? (fun y => y.pg == x.pg) = none := by
      rw [List.find?_eq_none]
      intro y hy
      rw [List.mem_filter] at hy
      have := hy.2
      simp at this ⊢
      omega
    rw [h1]
    simp
  · rw [if_neg hk]
    rw [List.find?_cons_of_neg (by simp; omega)]
    rcases Nat.lt_or_gt_of_ne hk with hl | hl
    · rw [find?_filterM (p := fun y => decide (y.pg < x.pg)) (fun y _ h => by simp at h ⊢; omega)]
      have h2 : (M.filter (fun y => decide (x.pg < y.pg))).find? (fun y => y.pg == k) = none := by
        rw [List.find?_eq_none]
        intro y hy
        rw [List.mem_filter] at hy
        have := hy.2
        simp at this ⊢
        omega
      rw [h2]
      simp
    · rw [find?_filterM (p := fun y => decide (x.pg < y.pg)) (fun y _ h => by simp at h ⊢; omega)]
      have h2 : (M.filter (fun y => decide (y.pg < x.pg))).find? (fun y => y.pg == k) = none := by
        rw [List.find?_eq_none]
        intro y hy
        rw [List.mem_filter] at hy
        have := hy.2
        simp at this ⊢
        omega
      rw [h2]
      rfl
theorem look_ins {M : List Pg} (x : Pg) : look (insPg M x) = mput (look M) x.pg x.ptr := by
  funext k
  unfold look mput
  simp only [fnd_ins]
  by_cases h0 : 0 ≤ k
  · simp only [if_pos h0]
    by_cases hk : k = (x.pg : Int)
    · subst hk; simp
    · rw [if_neg hk, if_neg (by omega)]
  · simp only [if_neg h0]
    rw [if_neg (by omega)]
theorem ins_perm {M : List Pg} {x : Pg} (hno : fnd M x.pg = none) : (x :: M).Perm (insPg M x) := by
  unfold insPg
  have h1 : M.Perm (M.filter (fun y => decide (y.pg < x.pg)) ++ M.filter (fun y => decide (x.pg < y.pg))) := by
    have h2 := (List.filter_append_perm (fun y : Pg => decide (y.pg < x.pg)) M).symm
    have h3 : M.filter (fun y => !decide (y.pg < x.pg)) = M.filter (fun y => decide (x.pg < y.pg)) := by
      apply List.filter_congr
      intro y hy
      have := List.find?_eq_none.1 hno y hy
      simp at this
      rw [Bool.eq_iff_iff]
      simp
      omega
    rw [h3] at h2
    exact h2
  exact (List.Perm.cons x h1).trans List.perm_middle.symm
theorem ModOk.ins {M : List Pg} (h : ModOk M) {x : Pg} (hx1 : x.pg < 68719476736) (hx2 : x.perm ≤ 7) (hx3 : x.bs.length = 4096) : ModOk (insPg M x) := by
  have mem : ∀ y ∈ insPg M x, y = x ∨ y ∈ M := fun y hy => by
    unfold insPg at hy
    rcases List.mem_append.1 hy with hy | hy
    · exact .inr (List.mem_filter.1 hy).1
    · rcases List.mem_cons.1 hy with rfl | hy
      · exact .inl rfl
      · exact .inr (List.mem_filter.1 hy).1
  refine ⟨?_, ?_, ?_, ?_⟩
  · unfold insPg
    rw [List.pairwise_append]
    refine ⟨h.rise.filter _, ?_, ?_⟩
    · rw [List.pairwise_cons]
      exact ⟨fun y hy => by simpa using (List.mem_filter.1 hy).2, h.rise.filter _⟩
    · intro y hy z hz
      have h1 : y.pg < x.pg := by simpa using (List.mem_filter.1 hy).2
      rcases List.mem_cons.1 hz with rfl | hz
      · exact h1
      · have h2 : x.pg < z.pg := by simpa using (List.mem_filter.1 hz).2
        omega
  · intro y hy
    rcases mem y hy with rfl | hy
    · exact hx1
    · exact h.lt y hy
  · intro y hy
    rcases mem y hy with rfl | hy
    · exact hx2
    · exact h.perm y hy
  · intro y hy
    rcases mem y hy with rfl | hy
    · exact hx3
    · exact h.len y hy

/-- The world behind an update of a map. -/
noncomputable def updW (t : TypeId) (b : Nat) (x : Int) (v : Value) (w : World) : World := match (Instr.mapUpdate t (.map (some b)) (.int .i64 x) v).run Try.prog w with
  | .ok _ w' => w'
  | .halt _ w' => w'

section
variable {e : Env} {w : World} {R : List HP} {m : Nat} {M : List Pg}
theorem updW_spec {b N : Nat} {D : Int → Option Value} {t kt et : TypeId} (H : Holds e w (mapZ b N D :: R)) (ht : Try.prog.underlying t = some (.map kt et)) (hk : Try.prog.underlying kt = some (.int .i64)) {x : Int} (h0 : 0 ≤ x) (hN : x < N) (v : Value) :
    (Instr.mapUpdate t (.map (some b)) (.int .i64 x) v).run Try.prog w = .ok () (updW t b x v w) ∧ Holds e (updW t b x v w) (mapZ b N (mput D x v) :: R) := by
  obtain ⟨w', h1, h2⟩ := mapZ_update (P := Try.prog) H ht hk h0 hN v
  have : updW t b x v w = w' := by unfold updW; rw [h1]
  rw [this]
  exact ⟨h1, h2⟩
theorem Holds.allPerm {α : Type} {f : α → HP} {l l' : List α} (p : l.Perm l') (H : Holds e w (all f l :: R)) : Holds e w (all f l' :: R) :=
  H.head fun _ s => Sat.perm (p.map f) s

/-- The pages as an op finds them: the page of its address, looked up. -/
def lookV (o : Option Pg) : Value := match o with | some x => .tuple #[x.ptr, .bool true] | none => .tuple #[.pointer none, .bool false]
def ptrO (o : Option Pg) : Value := match o with | some x => x.ptr | none => .pointer none
theorem modLook {mb : Nat} (H : Holds e w (pts m (modObj mb) :: mapZ mb 68719476736 (look M) :: all pageH M :: R)) (q : Nat) : (Instr.lookup 126 (.map (some mb)) (.int .i64 q) true).run Try.prog w = .ok (.tuple #[ptrO (fnd M q), .bool (fnd M q).isSome]) w := by
  have hzv : ∀ w, (zeroValue 139).run Try.prog w = .ok (.pointer none) w := fun w => by kernel_rfl
  have := mapZ_lookup (P := Try.prog) (t := 126) (kt := 3) (et := 139) H.swap (by kernel_rfl) (by kernel_rfl) (hzv w) true (q : Int)
  rw [look_nat] at this
  rw [this]
  cases fnd M q with
  | none => rfl
  | some x => rfl

def errLit (e1 e2 e3 : Int) : Obj := .cells #[.int .i64 e1, .int .i64 e2, .int .i64 e3] 32 (0, 0)
def errLit2 (e1 e2 : Int) : Obj := .cells #[.int .i64 e1, .int .i64 e2] 32 (0, 0)
theorem first3 {blk : Nat} {e1 e2 e3 : Int} (H : Holds e w (pts blk (errLit e1 e2 e3) :: R)) : Calls Try.prog 80 #[.slice (some ⟨blk, 0, none⟩) 3 3] w (Ret e (.int .i64 (firstE [e1, e2, e3])) R) := by
  refine retC (retQ (modFirst [e1, e2, e3] (by simp) _ ⟨rfl, .inr ⟨_, _, rfl, Nat.le_refl _, fun j u hj => ?_⟩⟩) H) fun _ h => h.drop
  rw [Addr.add_at, Nat.zero_add, H.cells]
  simpa [ints] using hj
theorem first2 {blk : Nat} {e1 e2 : Int} (H : Holds e w (pts blk (errLit2 e1 e2) :: R)) : Calls Try.prog 80 #[.slice (some ⟨blk, 0, none⟩) 2 2] w (Ret e (.int .i64 (firstE [e1, e2])) R) := by
  refine retC (retQ (modFirst [e1, e2] (by simp) _ ⟨rfl, .inr ⟨_, _, rfl, Nat.le_refl _, fun j u hj => ?_⟩⟩) H) fun _ h => h.drop
  rw [Addr.add_at, Nat.zero_add, H.cells]
  simpa [ints] using hj

set_option maxRecDepth 100000 in
set_option maxHeartbeats 4000000 in
theorem modMapped {kind perm n : Int} {a : Nat} (ha : a < 18446744073709551616) {d : Value} (hd : ∃ ad l c, d = .slice ad l c) (H : Holds e w (modH m M :: R)) :
    Calls Try.prog 61 #[.pointer (some ⟨m, 0, none⟩), opVal kind perm n a d] w
      (RetEx e (fun _ : Nat × Nat => .int .i64 (mapE M a perm)) (fun p => modH m (mapP M a perm p) :: R)) := by
  obtain ⟨ad, c, l, rfl⟩ := hd
  obtain ⟨mb, hO, HY⟩ := mod_open H
  have HY1 := HY.alloc (opObj kind perm n a (.slice ad c l))
  generalize hbx : w.heap.size = bx at HY1
  obtain ⟨q, hq⟩ : ∃ q, pgOf a = q := ⟨_, rfl⟩
  have hql : q < 68719476736 := hq ▸ pgOf_lt a
  have CP : Hid (∀ w', Calls Try.prog 79 #[.int .u64 a] w' (Quiet w' (.int .i64 q))) := Lib.hid fun w' => hq ▸ vaPage (w := w') a ha
  have CA : Hid (∀ w' X, Holds e w' X → Calls Try.prog 81 #[.int .u64 a] w' (Ret e (.int .i64 (atE a)) X)) := Lib.hid fun w' X h => retQ (modAt a ha) h
  have CM : Hid (∀ w' X, Holds e w' X → Calls Try.prog 82 #[.int .i64 perm] w' (Ret e (.bool (mayP perm)) X)) := Lib.hid fun w' X h => retQ (pteMay perm) h
  have HL : Hid (∀ w', Holds e w' (pts bx (opObj kind perm n a (.slice ad c l)) :: pts m (modObj mb) :: mapZ mb 68719476736 (look M) :: all pageH M :: R) → (Instr.lookup 126 (.map (some mb)) (.int .i64 q) true).run Try.prog w' = .ok (.tuple #[ptrO (fnd M q), .bool (fnd M q).isSome]) w') := Lib.hid fun w' h => modLook h.drop q
  have HE : Hid (firstE [(atE a : Int), if mayP perm then 0 else 1, if !(fnd M q).isSome then 0 else 7] = (mapE M a perm : Int)) := Lib.hid (by
    unfold mapE
    rw [hq]
    by_cases h1 : atE a = 0
    · rw [if_neg (show ¬ (atE a ≠ 0) from fun h => h h1)]
      cases mayP perm <;> cases (fnd M q).isSome <;> simp [firstE, h1]
    · rw [if_pos h1]
      simp [firstE, h1])
  obtain ⟨pv, hpv⟩ : ∃ pv, ptrO (fnd M q) = pv := ⟨_, rfl⟩
  obtain ⟨ps, hps⟩ : ∃ ps, (fnd M q).isSome = ps := ⟨_, rfl⟩
  rw [hpv, hps] at HL
  rw [hps] at HE
  have CW1 : Hid (∀ w' X, Holds e w' X → Calls Try.prog 66 #[.bool (mayP perm), .int .i64 1] w' (Ret e (.int .i64 (if mayP perm then 0 else 1)) X)) := Lib.hid fun w' X h => retQ (modWants _ _) h
  have CW2 : Hid (∀ w' X, Holds e w' X → Calls Try.prog 66 #[.bool (!ps), .int .i64 7] w' (Ret e (.int .i64 (if !ps then 0 else 7)) X)) := Lib.hid fun w' X h => retQ (modWants _ _) h
  have CF : Hid (∀ w' blk e1 e2 e3 X, Holds e w' (pts blk (errLit e1 e2 e3) :: X) → Calls Try.prog 80 #[.slice (some ⟨blk, 0, none⟩) 3 3] w' (Ret e (.int .i64 (firstE [e1, e2, e3])) X)) := Lib.hid fun w' blk e1 e2 e3 X h => first3 h
  obtain ⟨e1, he1⟩ : ∃ e1 : Int, (if mayP perm then 0 else 1) = e1 := ⟨_, rfl⟩
  obtain ⟨e2, he2⟩ : ∃ e2 : Int, (if !ps then 0 else 7) = e2 := ⟨_, rfl⟩
  rw [he1] at CW1 HE
  rw [he2] at CW2 HE
  have HEQ : Hid ((if mayP perm then (0 : Int) else 1) = e1 ∧ (if !ps then (0 : Int) else 7) = e2 ∧ (fnd M q).isSome = ps ∧ pgOf a = q) := Lib.hid ⟨he1, he2, hps, hq⟩
  generalize hmp : mayP perm = mp at CM CW1
  clear he1 he2 hps hq
  unfold opVal
  clear H HY
  go_enter Try.func61, Try.ntmps61
  go_wp2_with fail
  obtain ⟨I, Wf, hI, hW, hWs⟩ := worlds_of HY1
  have r0 : ∀ i, (Wf i).cell? ⟨m, 0, none⟩ = some (.map (some mb)) := fun i => (hW i).swap.cells 0
  have r1 := fun i => HL.out _ (hW i)
  have r2 : ∀ i, (Wf i).cell? ⟨bx, 3, none⟩ = some (.int .u64 a) := fun i => (hW i).cells 3
  refine wp_region_holds hWs HY1 (by kernel_rfl) (by kernel_rfl) ?_
  (repeat (go_big_quiet_step ((go_at_call 79; exact quietQ (CP.out _) (hW _) hWs)))); refine wpQuiet_nil ?_; intro _ hw'; obtain ⟨nq, hw''⟩ := hw'; subst hw''
  have H2 := hW nq
  generalize Wf nq = w2 at H2
  clear r0 r1 r2 hW hWs HY1 HL CP
  have HK : Hid (∀ w' X, Holds e w' (pts bx (opObj kind perm n a (.slice ad c l)) :: X) → w'.cell? ⟨bx, 3, none⟩ = some (.int .u64 a) ∧ w'.cell? ⟨bx, 1, none⟩ = some (.int .i64 perm)) := Lib.hid fun w' X h => ⟨h.cells 3, h.cells 1⟩
  have hd2 := H2.drew
  go_wp2_with fail
  go_region_held3 (fun w' => w'.cell? ⟨bx, 3, none⟩ = some (.int .u64 a) ∧ w'.cell? ⟨bx, 1, none⟩ = some (.int .i64 perm))
    (first | exact HK.out _ _ (by assumption) | exact HK.out _ _ (Holds.drop (Holds.alloc (by assumption) _)))
    (first
      | (go_at_call 81; refine (CA.out _ _ (by assumption)).mono ?_; rintro e w4 ⟨rfl, HN⟩)
      | (go_at_call 82; refine (CM.out _ _ (by assumption)).mono ?_; rintro e w4 ⟨rfl, HN⟩)
      | (go_at_call 66; refine (CW1.out _ _ (by assumption)).mono ?_; rintro e w4 ⟨rfl, HN⟩)
      | (go_at_call 66; refine (CW2.out _ _ (by assumption)).mono ?_; rintro e w4 ⟨rfl, HN⟩)
      | (go_at_call 80; refine (CF.out _ _ _ _ _ _ (Holds.alloc (by assumption) _)).mono ?_; rintro e w4 ⟨rfl, HN⟩))
  clear hd2 H2 CA CM CW1 CW2 CF HK
  simp only [HE.out]
  obtain ⟨E, hEq⟩ : ∃ E, mapE M a perm = E := ⟨_, rfl⟩
  rw [hEq]
  by_cases hE : E = 0
  · subst hE
    have HE0 := Lib.hid hEq
    have hfn : fnd M q = none := by
      have hh := HEQ.out
      unfold mapE at hEq
      rw [hh.2.2.2] at hEq
      cases hf : fnd M q with
      | none => rfl
      | some x =>
        rw [hf] at hEq
        split at hEq
        · next h => exact absurd hEq h
        · split at hEq <;> simp at hEq
    have hmp1 : mayP perm = true := by
      unfold mapE at hEq
      split at hEq
      · next h => exact absurd hEq h
      · cases hm : mayP perm with
        | true => rfl
        | false => rw [hm] at hEq; simp at hEq
    have hpb := mayP_bd hmp1
    have hq : pgOf a = q := HEQ.out.2.2.2
    obtain ⟨Z, hZ⟩ : ∃ Z, (u8v (List.replicate 4096 0)).toArray = Z := ⟨_, rfl⟩
    have hmk : ∀ W, (Instr.makeSlice 22 (.int .i64 4096) (.int .i64 4096)).run Try.prog W = .ok (.slice (some ⟨W.heap.size, 0, none⟩) 4096 4096) (W.alloc (.cells Z 5)) := fun W => hZ ▸ mkB 4096 (by omega) W
    have CPq : Hid (∀ w' X, Holds e w' X → Calls Try.prog 79 #[.int .u64 a] w' (Ret e (.int .i64 q) X)) := Lib.hid fun w' X h => hq ▸ retQ (vaPage a ha) h
    have HK4 : Hid (∀ w' D X, Holds e w' (pts bx (opObj kind perm n a (.slice ad c l)) :: pts m (modObj mb) :: mapZ mb 68719476736 D :: X) →
        w'.cell? ⟨bx, 3, none⟩ = some (.int .u64 a) ∧ w'.cell? ⟨bx, 1, none⟩ = some (.int .i64 perm) ∧ w'.cell? ⟨m, 0, none⟩ = some (.map (some mb)) ∧ ∀ v, (Instr.mapUpdate 126 (.map (some mb)) (.int .i64 q) v).run Try.prog w' = .ok () (updW 126 mb q v w')) := Lib.hid fun w' D X h =>
      ⟨h.cells 3, h.cells 1, h.swap.cells 0, fun v => (updW_spec (t := 126) (kt := 3) (et := 139) h.p2 (by kernel_rfl) (by kernel_rfl) (by omega) (by omega) v).1⟩
    have HKU : Hid (∀ w' D X v, Holds e w' (pts bx (opObj kind perm n a (.slice ad c l)) :: pts m (modObj mb) :: mapZ mb 68719476736 D :: X) → Holds e (updW 126 mb q v w') (pts bx (opObj kind perm n a (.slice ad c l)) :: pts m (modObj mb) :: mapZ mb 68719476736 (mput D q v) :: X)) := Lib.hid fun w' D X v h =>
      (updW_spec (t := 126) (kt := 3) (et := 139) h.p2 (by kernel_rfl) (by kernel_rfl) (by omega) (by omega) v).2.re 3 [1, 2, 0]
    have HD : Hid (∀ W0 pb gb, Holds e W0 (pts pb (.cells #[.int .i64 perm, .slice (some ⟨gb, 0, none⟩) 4096 4096] 142) :: pts gb (.cells Z 5) :: pts bx (opObj kind perm n a (.slice ad c l)) :: pts m (modObj mb) :: mapZ mb 68719476736 (look M) :: all pageH M :: R) →
        Holds e (updW 126 mb q (.pointer (some ⟨pb, 0, none⟩)) W0) (modH m (mapP M a perm (pb, gb)) :: R)) := Lib.hid fun W0 pb gb h => by
      have hn : (newPg a perm pb gb).pg = q := hq
      have h1 := (updW_spec (t := 126) (kt := 3) (et := 139) (h.re 6 [4, 0, 1, 2, 3, 5]) (by kernel_rfl) (by kernel_rfl) (x := (q : Int)) (by omega) (by omega) (.pointer (some ⟨pb, 0, none⟩))).2
      have h2 : Holds e (updW 126 mb q (.pointer (some ⟨pb, 0, none⟩)) W0) (grp [pts pb (pgObj (newPg a perm pb gb)), pts gb (bsObj (newPg a perm pb gb))] :: all pageH M :: pts m (modObj mb) :: mapZ mb 68719476736 (mput (look M) q (.pointer (some ⟨pb, 0, none⟩))) :: R) := by
        refine Holds.mkGrp (L := [pts _ _, pts _ _]) ?_
        have e1 : pgObj (newPg a perm pb gb) = .cells #[.int .i64 perm, .slice (some ⟨gb, 0, none⟩) 4096 4096] 142 := by
          unfold pgObj newPg
          rw [show ((perm.toNat : Nat) : Int) = perm by omega]
        have e2 : bsObj (newPg a perm pb gb) = .cells Z 5 := by unfold bsObj newPg; rw [hZ]
        rw [e1, e2]
        exact h1.re 6 [1, 2, 5, 4, 0]
      have h3 := (Holds.allCons (f := pageH) (x := newPg a perm pb gb) h2).allPerm (ins_perm (x := newPg a perm pb gb) (by rw [hn]; exact hfn))
      rw [mapP_yes HE0.out]
      have e3 : mput (look M) (q : Int) (.pointer (some ⟨pb, 0, none⟩)) = look (insPg M (newPg a perm pb gb)) := by rw [look_ins, hn]; rfl
      rw [e3] at h3
      exact mod_close (hO.ins (by rw [hn]; omega) (by show perm.toNat ≤ 7; omega) (by simp [newPg])) (h3.re 3 [1, 2, 0])
    have hd4 := HN.drew
    clear HE hEq HEQ hpv hmp
    go_wp2_with fail
    go_region_held3 (fun w' => w'.cell? ⟨bx, 3, none⟩ = some (.int .u64 a) ∧ w'.cell? ⟨bx, 1, none⟩ = some (.int .i64 perm) ∧ w'.cell? ⟨m, 0, none⟩ = some (.map (some mb)) ∧ ∀ v, (Instr.mapUpdate 126 (.map (some mb)) (.int .i64 q) v).run Try.prog w' = .ok () (updW 126 mb q v w'))
      (first
        | exact HK4.out _ _ _ (by assumption)
        | exact HK4.out _ _ _ (Holds.drop (Holds.alloc (by assumption) _))
        | exact HK4.out _ _ _ (Holds.drop (Holds.drop (Holds.alloc (Holds.alloc (by assumption) _) _)))
        | exact HK4.out _ _ _ (Holds.drop (by assumption))
        | exact HK4.out _ _ _ (Holds.drop (Holds.drop (by assumption)))
        | exact HK4.out _ _ _ (Holds.drop (Holds.drop (Holds.alloc (by assumption) _)))
        | exact HK4.out _ _ _ (HKU.out _ _ _ _ (Holds.drop (Holds.drop (Holds.alloc (Holds.alloc (by assumption) _) _))))
        | exact HK4.out _ _ _ (HKU.out _ _ _ _ (Holds.drop (Holds.drop (by assumption))))
        | exact HK4.out _ _ _ (HKU.out _ _ _ _ (Holds.drop (Holds.drop (Holds.alloc (by assumption) _)))))
      (first
        | (go_at_call 79; refine (CPq.out _ _ (by first | assumption | exact Holds.alloc (by assumption) _ | exact Holds.alloc (Holds.alloc (by assumption) _) _)).mono ?_; rintro e w5 ⟨rfl, HN5⟩))
    all_goals
      clear hd4 HK4 HKU CPq
      go_wp2_with fail
      go_ret
      first
        | (have HX := Holds.alloc (Holds.alloc HN5 (.cells Z 5)) (.cells #[.int .i64 perm, .slice (some ⟨w5.heap.size, 0, none⟩) 4096 4096] 142); rw [World.size_alloc] at HX; exact ⟨(_, _), by rw [HE0.out]; rfl, HD.out _ _ _ HX⟩)
        | (have HX := Holds.alloc HN5 (.cells #[.int .i64 perm, .slice (some ⟨w4.heap.size, 0, none⟩) 4096 4096] 142); exact ⟨(_, _), by rw [HE0.out]; rfl, HD.out _ _ _ HX⟩)
        | (have HX := HN5; rw [World.size_alloc] at HX; exact ⟨(_, _), by rw [HE0.out]; rfl, HD.out _ _ _ HX⟩)
  · have HE0 := Lib.hid hEq
    have hEb : ((E : Int) == 0) = false := by simp; omega
    have HH := Lib.hid (mod_close hO HN.drop)
    have HNE := Lib.hid hE
    clear HN hE hEq HE HEQ
    go_wp2_with fail
    go_ret
    exact ⟨(0, 0), by rw [HE0.out]; rfl, by show Holds e w4 (modH m (mapP M a perm (0, 0)) :: R); rw [mapP_no (by rw [HE0.out]; exact HNE.out)]; exact HH.out⟩
end
end Go.Proofs.Ytjbphdjheklhbaa
