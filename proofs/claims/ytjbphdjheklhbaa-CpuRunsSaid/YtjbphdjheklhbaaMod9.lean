/-
  Package model: New, Does.
-/
import Derived.Test.YtjbphdjheklhbaaMod8
namespace Go.Proofs.Ytjbphdjheklhbaa
open Go.RowKit

theorem size_set (w : World) (a : Addr) (v : Value) : (w.setCell a v).heap.size = w.heap.size := by simp [World.setCell]
theorem reads_lits (w : World) (xs : List Value) (T : TypeId) (n size : Nat) (hx : xs.length = n * size) : Reads (w.alloc (.cells xs.toArray T)) (.slice (some ⟨w.heap.size, 0, none⟩) n n) size n xs := by
  refine ⟨hx, .inr ⟨_, _, rfl, Nat.le_refl _, fun j u hj => ?_⟩⟩
  rw [Addr.add_at, Nat.zero_add, World.cell?_alloc_new]
  simpa using hj
theorem elem_ans : ElemOf Try.prog 26 104 3 40 := ElemOf.mk (z := .agg #[.int .i64 0, .int .i64 0, .slice none 0 0]) (by kernel_rfl) (by kernel_rfl) rfl (by decide)
theorem cells_len (L : List OpS) : (L.flatMap OpS.cells).length = L.length * 5 := by
  induction L with
  | nil => rfl
  | cons o L ih => simp [OpS.cells, ih]; omega
theorem cells_at {L : List OpS} {k : Nat} {o : OpS} (h : L[k]? = some o) (j : Nat) (hj : j < 5) : (L.flatMap OpS.cells)[k * 5 + j]? = o.cells[j]? := by
  induction L generalizing k with
  | nil => simp at h
  | cons x L ih =>
    cases k with
    | zero =>
      simp at h
      subst h
      rw [Nat.zero_mul, Nat.zero_add, List.flatMap_cons, List.getElem?_append_left (by simp [OpS.cells]; omega)]
    | succ k =>
      simp at h
      rw [List.flatMap_cons, List.getElem?_append_right (by simp [OpS.cells]; omega), ← ih h]
      congr 1
      simp [OpS.cells]
      omega

section
variable {e : Env} {w : World} {R : List HP} {m : Nat} {M : List Pg}
theorem modNew (H : Holds e w R) : Calls Try.prog 32 #[] w (RetEx e (fun m : Nat => .pointer (some ⟨m, 0, none⟩)) (fun m => modH m [] :: R)) := by
  have hmk : ∀ w : World, (Instr.makeMap 126 none).run Try.prog w = .ok (.map (some w.heap.size)) (w.alloc (.map #[] 0)) := fun _ => rfl
  have H1 := (mapZ_made H 68719476736).alloc (modObj w.heap.size)
  rw [World.size_alloc] at H1
  have HH : Hid (Holds e _ (modH (w.heap.size + 1) [] :: R)) := Lib.hid (mod_close (mb := w.heap.size) ⟨List.Pairwise.nil, fun _ h => (by cases h), fun _ h => (by cases h), fun _ h => (by cases h)⟩ ((by
    have e1 : look [] = fun _ => none := by funext k; unfold look fnd; split <;> rfl
    rw [e1]
    exact (Holds.allNil (f := pageH) H1).q2)))
  clear H1
  go_enter Try.func32, Try.ntmps32
  go_wp2_with fail
  go_ret
  exact ⟨_, rfl, HH.out⟩

set_option maxRecDepth 100000 in
set_option maxHeartbeats 400000 in
/-- Does, by what each op does. -/
theorem modDoesL {τ : Type} (A : τ → HP) (Good : Nat → τ → List Value → Prop) (L : List OpS) (hL : L.length ≤ 1000) (v : Value) (hv : ∀ w', Holds e w' R → Reads w' v 5 L.length (L.flatMap OpS.cells)) (t0 : τ) (h0 : Good 0 t0 [])
    (hsl : ∀ (k : Nat) (o : OpS), L[k]? = some o → ∃ ad l c, o.d = .slice ad l c)
    (hstep : ∀ (k : Nat) (o : OpS), L[k]? = some o → ∀ t ans, Good k t ans → ∀ X : List HP, (∀ w', Holds e w' X → Holds e w' R) → ∀ w', Holds e w' (A t :: X) →
      Calls Try.prog 44 #[.pointer (some ⟨m, 0, none⟩), o.val] w' (fun en w'' => ∃ t' E av lv cv, en = .returned (ansVal E (.slice av lv cv)) ∧ Good (k + 1) t' (ans ++ [.int .i64 E, .int .i64 0, .slice av lv cv]) ∧ Holds e w'' (A t' :: X)))
    (H : Holds e w (A t0 :: R)) :
    Calls Try.prog 10 #[.pointer (some ⟨m, 0, none⟩), v] w
      (fun en w' => ∃ (v' : Value) (t : τ) (ans : List Value), en = .returned v' ∧ Good L.length t ans ∧ Holds e w' (row v' 104 3 L.length ans :: A t :: R)) := by
  obtain ⟨ad, c, rfl⟩ := (hv w H.drop).shape
  have HV := Lib.hid hv
  have HST := Lib.hid hstep
  have HSL := Lib.hid hsl
  clear hv hstep hsl
  obtain ⟨len, hlen⟩ : ∃ len, L.length = len := ⟨_, rfl⟩
  rw [hlen] at HV hL
  rw [hlen]
  go_enter Try.func10, Try.ntmps10
  go_wp2_with fail
  go_loopw [5, 11] (fun o i wr => ∃ (k : Nat) (t : τ) (ans : List Value), k ≤ len ∧ i = .int .i64 (k : Nat) ∧ Good k t ans ∧ Holds e wr (row o 104 3 k ans :: A t :: R)) (fun _ i _ => len - (Go.RowKit.intOf i).toNat)
  case atStart => exact ⟨0, t0, [], by omega, rfl, h0, row.nil _ 3 H⟩
  case round =>
    obtain ⟨k, t, ans, hk, rfl, hg, HX⟩ := hrel
    by_cases hlt : k < len
    · obtain ⟨o, ho⟩ : ∃ o, L[k]? = some o := ⟨_, List.getElem?_eq_getElem (by omega)⟩
      obtain ⟨oad, ol, oc, hod⟩ := HSL.out k o ho
      obtain ⟨g, of', rfl, h1⟩ := (HV.out _ HX.drop.drop).at (by omega)
      have c0 : wr.cell? ⟨g, of' + k * 5, none⟩ = some (.int .i64 o.kind) := h1 _ _ (cells_at ho 0 (by omega))
      have c1 : wr.cell? ⟨g, of' + k * 5 + 1, none⟩ = some (.int .i64 o.perm) := by rw [Nat.add_assoc]; exact h1 _ _ (cells_at ho 1 (by omega))
      have c2 : wr.cell? ⟨g, of' + k * 5 + 2, none⟩ = some (.int .i64 o.n) := by rw [Nat.add_assoc]; exact h1 _ _ (cells_at ho 2 (by omega))
      have c3 : wr.cell? ⟨g, of' + k * 5 + 3, none⟩ = some (.int .u64 o.a) := by rw [Nat.add_assoc]; exact h1 _ _ (cells_at ho 3 (by omega))
      have c4 : wr.cell? ⟨g, of' + k * 5 + 4, none⟩ = some (.slice oad ol oc) := by rw [Nat.add_assoc]; exact h1 _ _ (by rw [cells_at ho 4 (by omega)]; unfold OpS.cells; rw [hod]; rfl)
      have HST1 := Lib.hid (HST.out k o ho t ans hg)
      have e1 : o.val = .agg #[.int .i64 o.kind, .int .i64 o.perm, .int .i64 o.n, .int .u64 o.a, .slice oad ol oc] := by unfold OpS.val opVal; rw [hod]
      rw [e1] at HST1
      clear h1 e1 hod ho
      obtain ⟨kind, perm, n, a, d, ds⟩ := o
      dsimp only at *
      go_wp2_with fail
      have H3 := (HX.alloc (.cells #[.int .i64 kind, .int .i64 perm, .int .i64 n, .int .u64 a, .slice oad ol oc] 30)).alloc (.cells #[.int .i64 1, .int .i64 0, .slice none 0 0] 104)
      rw [World.size_alloc] at H3
      refine (HST1.out (pts (wr.heap.size + 1) (.cells #[.int .i64 1, .int .i64 0, .slice none 0 0] 104) :: row u5 104 3 k ans :: R) (fun w' h => h.drop.drop) _ (H3.re 4 [3, 0, 2])).mono ?_
      rintro en w1 ⟨t', E, av, lv, cv, rfl, hg', H4⟩
      have H5 := H4.swap
      have c5 := H5.cells
      have f5 := H5.frozen
      have H6 := ((H5.set 0 (.int .i64 E)).set 1 (.int .i64 0)).set 2 (.slice av lv cv)
      have HG := Lib.hid hg'
      clear HST1 H3 H4 H5 hg' HX c0 c1 c2 c3 c4
      generalize wr.heap.size = sz at *
      unfold ansVal
      have H7 : Holds e _ (row u5 104 3 k ans :: A t' :: R) := ((H6.alloc (.cells #[.int .i64 E, .int .i64 0, .slice av lv cv] 104)).re 4 [3, 2])
      have HRL : Reads ((((w1.setCell ⟨sz + 1, 0, none⟩ (.int .i64 E)).setCell ⟨sz + 1, 1, none⟩ (.int .i64 0)).setCell ⟨sz + 1, 2, none⟩ (.slice av lv cv)).alloc (.cells #[.int .i64 E, .int .i64 0, .slice av lv cv] 104)) (.slice (some ⟨w1.heap.size, 0, none⟩) 1 1) 3 1 [.int .i64 E, .int .i64 0, .slice av lv cv] := by
        have h := reads_lits (((w1.setCell ⟨sz + 1, 0, none⟩ (.int .i64 E)).setCell ⟨sz + 1, 1, none⟩ (.int .i64 0)).setCell ⟨sz + 1, 2, none⟩ (.slice av lv cv)) [.int .i64 E, .int .i64 0, .slice av lv cv] 104 1 3 rfl
        rw [size_set, size_set, size_set] at h
        exact h
      go_wp2_with (at_builtin; refine wpList_append_sl rfl _ _ _ rfl 104 3 40 elem_ans u5 k ans rfl H7 (.slice (some ⟨w1.heap.size, 0, none⟩) 1 1) 1 [.int .i64 E, .int .i64 0, .slice av lv cv] rfl HRL (by simp [Value.oneCell']) ?_ ?_ ?_)
      · unfold maxLen; omega
      · omega
      intro v' w2 H8
      clear H7 H6
      go_wp2_with fail
      go_roundw
      case rel => exact ⟨k + 1, t', _, by omega, by go_num, HG.out, H8⟩
      case measure => simp [Go.RowKit.intOf]; omega
    · obtain rfl : k = len := by omega
      go_wp2_with fail
      go_ret
      exact ⟨_, t, ans, rfl, hg, HX⟩
end
end Go.Proofs.Ytjbphdjheklhbaa
