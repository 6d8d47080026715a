/-
  Package model: Protect.
-/
import Derived.Test.YtjbphdjheklhbaaMod6
namespace Go.Proofs.Ytjbphdjheklhbaa
open Go.RowKit

def proE (M : List Pg) (a : Nat) (perm : Int) : Nat := if atE a ≠ 0 then atE a else if mayP perm = false then 1 else if (fnd M (pgOf a)).isSome then 0 else 9
def setPerm (M : List Pg) (q p : Nat) : List Pg := M.map fun y => if y.pg = q then { y with perm := p } else y
/-- The pages behind Protect. -/
def proP (M : List Pg) (a : Nat) (perm : Int) : List Pg := if proE M a perm = 0 then setPerm M (pgOf a) perm.toNat else M
theorem proP_no {M : List Pg} {a : Nat} {perm : Int} (h : proE M a perm ≠ 0) : proP M a perm = M := if_neg h
theorem proP_yes {M : List Pg} {a : Nat} {perm : Int} (h : proE M a perm = 0) : proP M a perm = setPerm M (pgOf a) perm.toNat := if_pos h
theorem fnd_perm (M : List Pg) (q p k : Nat) : fnd (setPerm M q p) k = (fnd M k).map fun y => if y.pg = q then { y with perm := p } else y := by
  unfold fnd setPerm
  rw [List.find?_map]
  congr 1
  congr 1
  funext x
  simp only [Function.comp]
  split <;> rfl
theorem look_perm (M : List Pg) (q p : Nat) : look (setPerm M q p) = look M := by
  funext k
  unfold look
  rw [fnd_perm]
  split
  · rw [Option.map_map]
    congr 1
    funext x
    simp only [Function.comp]
    split <;> rfl
  · rfl
theorem ModOk.pro {M : List Pg} (h : ModOk M) (a : Nat) (perm : Int) : ModOk (proP M a perm) := by
  by_cases hE : proE M a perm = 0
  · have hmp : mayP perm = true := by
      unfold proE at hE
      split at hE
      · next h => exact absurd hE h
      · cases hm : mayP perm with
        | true => rfl
        | false => rw [hm] at hE; simp at hE
    have hb := mayP_bd hmp
    rw [proP_yes hE]
    unfold setPerm
    refine ⟨?_, ?_, ?_, ?_⟩
    · rw [List.pairwise_map]
      refine h.rise.imp ?_
      intro x y hxy
      repeat (first | exact hxy | split)
    all_goals
      intro x hx
      obtain ⟨y, hy, rfl⟩ := List.mem_map.1 hx
    · split
      · exact h.lt y hy
      · exact h.lt y hy
    · split
      · show perm.toNat ≤ 7; omega
      · exact h.perm y hy
    · split
      · exact h.len y hy
      · exact h.len y hy
  · rw [proP_no hE]; exact h

section
variable {e : Env} {w : World} {R : List HP} {m : Nat} {M : List Pg}
set_option maxRecDepth 100000 in
set_option maxHeartbeats 4000000 in
theorem modProtected {kind perm n : Int} {a : Nat} (ha : a < 18446744073709551616) {d : Value} (hd : ∃ ad l c, d = .slice ad l c) (H : Holds e w (modH m M :: R)) :
    Calls Try.prog 63 #[.pointer (some ⟨m, 0, none⟩), opVal kind perm n a d] w
      (Ret e (.int .i64 (proE M a perm)) (modH m (proP M a perm) :: R)) := by
  obtain ⟨ad, c, l, rfl⟩ := hd
  obtain ⟨mb, hO, HY⟩ := mod_open H
  have HY1 := HY.alloc (opObj kind perm n a (.slice ad c l))
  generalize hbx : w.heap.size = bx at HY1
  obtain ⟨q, hq⟩ : ∃ q, pgOf a = q := ⟨_, rfl⟩
  have hql : q < 68719476736 := hq ▸ pgOf_lt a
  have CP : Hid (∀ w', Calls Try.prog 79 #[.int .u64 a] w' (Quiet w' (.int .i64 q))) := Lib.hid fun w' => hq ▸ vaPage (w := w') a ha
  have CA : Hid (∀ w' X, Holds e w' X → Calls Try.prog 81 #[.int .u64 a] w' (Ret e (.int .i64 (atE a)) X)) := Lib.hid fun w' X h => retQ (modAt a ha) h
  have CM : Hid (∀ w' X, Holds e w' X → Calls Try.prog 82 #[.int .i64 perm] w' (Ret e (.bool (mayP perm)) X)) := Lib.hid fun w' X h => retQ (pteMay perm) h
  have HL : Hid (∀ w', Holds e w' (pts bx (opObj kind perm n a (.slice ad c l)) :: pts m (modObj mb) :: mapZ mb 68719476736 (look M) :: all pageH M :: R) → (Instr.lookup 126 (.map (some mb)) (.int .i64 q) true).run Try.prog w' = .ok (.tuple #[ptrO (fnd M q), .bool (fnd M q).isSome]) w') := Lib.hid fun w' h => modLook h.drop q
  have HE : Hid (firstE [(atE a : Int), if mayP perm then 0 else 1, if (fnd M q).isSome then 0 else 9] = (proE M a perm : Int)) := Lib.hid (by
    unfold proE
    rw [hq]
    by_cases h1 : atE a = 0
    · rw [if_neg (show ¬ (atE a ≠ 0) from fun h => h h1)]
      cases mayP perm <;> cases (fnd M q).isSome <;> simp [firstE, h1]
    · rw [if_pos h1]
      simp [firstE, h1])
  obtain ⟨pv, hpv⟩ : ∃ pv, ptrO (fnd M q) = pv := ⟨_, rfl⟩
  obtain ⟨ps, hps⟩ : ∃ ps, (fnd M q).isSome = ps := ⟨_, rfl⟩
  rw [hpv, hps] at HL
  rw [hps] at HE
  have CW1 : Hid (∀ w' X, Holds e w' X → Calls Try.prog 66 #[.bool (mayP perm), .int .i64 1] w' (Ret e (.int .i64 (if mayP perm then 0 else 1)) X)) := Lib.hid fun w' X h => retQ (modWants _ _) h
  have CW2 : Hid (∀ w' X, Holds e w' X → Calls Try.prog 66 #[.bool ps, .int .i64 9] w' (Ret e (.int .i64 (if ps then 0 else 9)) X)) := Lib.hid fun w' X h => retQ (modWants _ _) h
  have CF : Hid (∀ w' blk e1 e2 e3 X, Holds e w' (pts blk (errLit e1 e2 e3) :: X) → Calls Try.prog 80 #[.slice (some ⟨blk, 0, none⟩) 3 3] w' (Ret e (.int .i64 (firstE [e1, e2, e3])) X)) := Lib.hid fun w' blk e1 e2 e3 X h => first3 h
  obtain ⟨e1, he1⟩ : ∃ e1 : Int, (if mayP perm then 0 else 1) = e1 := ⟨_, rfl⟩
  obtain ⟨e2, he2⟩ : ∃ e2 : Int, (if ps then 0 else 9) = e2 := ⟨_, rfl⟩
  rw [he1] at CW1 HE
  rw [he2] at CW2 HE
  have HEQ : Hid ((if mayP perm then (0 : Int) else 1) = e1 ∧ (if ps then (0 : Int) else 9) = e2 ∧ (fnd M q).isSome = ps ∧ pgOf a = q) := Lib.hid ⟨he1, he2, hps, hq⟩
  generalize hmp : mayP perm = mp at CM CW1
  clear he1 he2 hps hq
  unfold opVal
  clear H HY
  go_enter Try.func63, Try.ntmps63
  go_wp2_with fail
  obtain ⟨I, Wf, hI, hW, hWs⟩ := worlds_of HY1
  have r0 : ∀ i, (Wf i).cell? ⟨m, 0, none⟩ = some (.map (some mb)) := fun i => (hW i).swap.cells 0
  have r1 := fun i => HL.out _ (hW i)
  have r2 : ∀ i, (Wf i).cell? ⟨bx, 3, none⟩ = some (.int .u64 a) := fun i => (hW i).cells 3
  refine wp_region_holds hWs HY1 (by kernel_rfl) (by kernel_rfl) ?_
  (repeat (go_big_quiet_step ((go_at_call 79; exact quietQ (CP.out _) (hW _) hWs)))); refine wpQuiet_nil ?_; intro _ hw'; obtain ⟨nq, hw''⟩ := hw'; subst hw''
  have H2 := hW nq
  generalize Wf nq = w2 at H2
  clear r0 r1 r2 hW hWs HY1 HL CP
  have HK : Hid (∀ w' X, Holds e w' (pts bx (opObj kind perm n a (.slice ad c l)) :: X) → w'.cell? ⟨bx, 3, none⟩ = some (.int .u64 a) ∧ w'.cell? ⟨bx, 1, none⟩ = some (.int .i64 perm)) := Lib.hid fun w' X h => ⟨h.cells 3, h.cells 1⟩
  have hd2 := H2.drew
  go_wp2_with fail
  go_region_held3 (fun w' => w'.cell? ⟨bx, 3, none⟩ = some (.int .u64 a) ∧ w'.cell? ⟨bx, 1, none⟩ = some (.int .i64 perm))
    (first | exact HK.out _ _ (by assumption) | exact HK.out _ _ (Holds.drop (Holds.alloc (by assumption) _)))
    (first
      | (go_at_call 81; refine (CA.out _ _ (by assumption)).mono ?_; rintro e w4 ⟨rfl, HN⟩)
      | (go_at_call 82; refine (CM.out _ _ (by assumption)).mono ?_; rintro e w4 ⟨rfl, HN⟩)
      | (go_at_call 66; refine (CW1.out _ _ (by assumption)).mono ?_; rintro e w4 ⟨rfl, HN⟩)
      | (go_at_call 66; refine (CW2.out _ _ (by assumption)).mono ?_; rintro e w4 ⟨rfl, HN⟩)
      | (go_at_call 80; refine (CF.out _ _ _ _ _ _ (Holds.alloc (by assumption) _)).mono ?_; rintro e w4 ⟨rfl, HN⟩))
  clear hd2 H2 CA CM CW1 CW2 CF HK
  simp only [HE.out]
  obtain ⟨E, hEq⟩ : ∃ E, proE M a perm = E := ⟨_, rfl⟩
  rw [hEq]
  by_cases hE : E = 0
  · subst hE
    have HE0 := Lib.hid hEq
    have hq : pgOf a = q := HEQ.out.2.2.2
    have hmp1 : mayP perm = true := by
      unfold proE at hEq
      split at hEq
      · next h => exact absurd hEq h
      · cases hm : mayP perm with
        | true => rfl
        | false => rw [hm] at hEq; simp at hEq
    have hfs : ∃ x, fnd M q = some x := by
      unfold proE at hEq
      rw [hq] at hEq
      cases hf : fnd M q with
      | some x => exact ⟨x, rfl⟩
      | none =>
        rw [hf] at hEq
        split at hEq
        · next h => exact absurd hEq h
        · split at hEq <;> simp at hEq
    obtain ⟨x, hfx⟩ := hfs
    obtain ⟨ix, hix, hxq⟩ := fnd_at hfx
    have hpvx : pv = .pointer (some ⟨x.pb, 0, none⟩) := by rw [← hpv, hfx]; rfl
    subst hpvx
    have hpb := mayP_bd hmp1
    have hset : proP M a perm = M.set ix { x with perm := perm.toNat } := by
      rw [proP_yes hEq, hq, ← hxq]
      exact map_one hO hix (fun y => { y with perm := perm.toNat })
    have hlk : look (M.set ix { x with perm := perm.toNat }) = look M := by rw [← hset, proP_yes hEq, hq]; exact look_perm _ _ _
    have hok : ModOk (M.set ix { x with perm := perm.toNat }) := by rw [← hset]; exact hO.pro a perm
    have HS := Lib.hid hset
    have h6 : Holds e w4 (pts x.pb (pgObj x) :: pts x.gb (bsObj x) :: modX m mb M ix (pts bx (opObj kind perm n a (.slice ad c l)) :: R)) := mod_at hix (HN.re 4 [1, 2, 3, 0])
    have c6 := h6.cells
    have f6 := h6.frozen
    have b3 := HN.cells 1
    have h7 := h6.set 0 (.int .i64 perm)
    have h8 : Holds e (w4.setCell ⟨x.pb, 0, none⟩ (.int .i64 perm)) (pts x.pb (pgObj { x with perm := perm.toNat }) :: pts x.gb (bsObj { x with perm := perm.toNat }) :: modX m mb M ix (pts bx (opObj kind perm n a (.slice ad c l)) :: R)) := by
      have e1 : pgObj { x with perm := perm.toNat } = .cells #[.int .i64 perm, .slice (some ⟨x.gb, 0, none⟩) 4096 4096] 142 := by
        unfold pgObj
        rw [show ((perm.toNat : Nat) : Int) = perm by omega]
      rw [e1]
      exact h7
    have h9 := mod_turn hix hlk h8
    have HH := Lib.hid (mod_close hok (h9.d3))
    clear HN h6 h7 h8 h9 hok hlk hset hmp HE HEQ hEq hpv
    go_wp2_with fail
    go_ret
    exact ⟨by rw [HE0.out]; rfl, by rw [HS.out]; exact HH.out⟩
  · have HE0 := Lib.hid hEq
    have hEb : ((E : Int) == 0) = false := by simp; omega
    have HH := Lib.hid (mod_close hO HN.drop)
    have HNE := Lib.hid hE
    clear HN hE hEq HE HEQ
    go_wp2_with fail
    go_ret
    exact ⟨by rw [HE0.out]; rfl, by rw [proP_no (by rw [HE0.out]; exact HNE.out)]; exact HH.out⟩
end
end Go.Proofs.Ytjbphdjheklhbaa
