/-
  gunnylaw19.step: Set.
-/
import Derived.Test.YtfjdgjdkpmljkaaHanS
namespace Go.Proofs.Ytfjdgjdkpmljkaa
open Go.RowKit

theorem hCells_set {x : List HE} {cur : Array Value} {k : Nat} (hk : k < x.length) (hs : x.length * 4 ≤ cur.size) (ht : cur.toList.take (x.length * 4) = hCells x) (q : HE) :
    ((((cur.setIfInBounds (k * 4) (.int .i64 q.1)).setIfInBounds (k * 4 + 1) (.int .i64 q.2.page)).setIfInBounds (k * 4 + 2) (.int .i64 q.2.obj)).setIfInBounds (k * 4 + 3) (.int .i64 q.2.len)).toList.take (x.length * 4) = hCells (x.set k q) := by
  apply List.ext_getElem?
  intro i
  rw [List.getElem?_take]
  by_cases hi : i < x.length * 4
  · rw [if_pos hi, Array.getElem?_toList]
    have hm : i / 4 < x.length := by omega
    have e1 := hCells_get (x.set k q) (i / 4) (i % 4) (by simpa using hm) (Nat.mod_lt _ (by omega))
    rw [Nat.div_add_mod'] at e1
    rw [e1]
    simp only [Array.getElem?_setIfInBounds, Array.size_setIfInBounds]
    by_cases hik : i / 4 = k
    · have hg : (x.set k q).getD (i / 4) (0, PlaceS.zero) = q := by
        rw [hik]; simp [List.getD, hk]
      rw [hg]
      have h4 : i % 4 = 0 ∨ i % 4 = 1 ∨ i % 4 = 2 ∨ i % 4 = 3 := by omega
      rcases h4 with h4 | h4 | h4 | h4
      · rw [if_neg (by omega), if_neg (by omega), if_neg (by omega), if_pos (by omega), if_pos (by omega), h4]; rfl
      · rw [if_neg (by omega), if_neg (by omega), if_pos (by omega), if_pos (by omega), h4]; rfl
      · rw [if_neg (by omega), if_pos (by omega), if_pos (by omega), h4]; rfl
      · rw [if_pos (by omega), if_pos (by omega), h4]; rfl
    · have hg : (x.set k q).getD (i / 4) (0, PlaceS.zero) = x.getD (i / 4) (0, PlaceS.zero) := by
        simp [List.getD, List.getElem?_set_ne (fun e => hik e.symm)]
      rw [hg, if_neg (by omega), if_neg (by omega), if_neg (by omega), if_neg (by omega)]
      have e2 := hCells_get x (i / 4) (i % 4) hm (Nat.mod_lt _ (by omega))
      rw [Nat.div_add_mod', ← ht, List.getElem?_take, if_pos hi, Array.getElem?_toList] at e2
      exact e2
  · rw [if_neg hi, List.getElem?_eq_none (by rw [hCells_length]; simp; omega)]

section
variable {e : Env} {w : World} {R : List HP} {b : Nat} {t : TabS} {x : List HE} {v : Value}

@[elab_as_elim] theorem gen_at {motive : World → Prop} {e : Env} {w : World} {A : List HP} (H : Holds e w A) (h : ∀ w', Holds e w' A → motive w') : motive w := h w H

set_option maxRecDepth 100000 in
set_option maxHeartbeats 2000000 in
theorem step_set (A : Agree t x) (hl : x.length ≤ 60) (K h : Int) (P : PlaceS) (g3 : (K == 3) = true) (g2 : (K == 2) = false) (g0 : (K == 0) = false) (g1 : (K == 1) = false) (H : Holds e w (row v 113 4 x.length (hCells x) :: pts b t.obj :: R)) :
    Calls Try.prog 43 #[.pointer (some ⟨b, 0, none⟩), v, .agg #[.int .i64 K, .int .i64 h, .int .i64 P.page, .int .i64 P.obj, .int .i64 P.len]] w (StepPost e b x.length R) := by
  have HA := Lib.hid A
  clear A
  go_enter Try.func43, Try.ntmps43
  have H1 := (H.alloc (deedObj K h P))
  have H2 := (H1.alloc (pObj P))
  have hrA : ∀ w', Holds e w' (row v 113 4 x.length (hCells x) :: pts b t.obj :: R) → Reads w' v 4 x.length (hCells x) := fun w' h => row.reads h
  have HRA := Lib.hid hrA
  clear hrA
  unfold deedObj at H1
  unfold deedObj pObj at H2
  go_wp2_with fail
  have cat := retQ (atR_any x v h (by omega) (HRA.out _ H2.drop.drop)) H2
  generalize hbp : (w.alloc (.cells #[.int .i64 K, .int .i64 h, .int .i64 P.page, .int .i64 P.obj, .int .i64 P.len] 39 (0, 0))).heap.size = bp at *
  have hbp' : w.heap.size + 1 = bp := by rw [← hbp]; simp
  rw [hbp']
  generalize w.heap.size = bd at *
  clear hbp hbp' H1 H
  refine cat.mono ?_
  clear cat
  generalize hat : atR x h = i at *
  have HAT := Lib.hid hat
  clear hat
  rintro e w1 ⟨rfl, H3⟩
  clear H2
  have hcp := H3.cells
  have hcd := H3.swap.cells
  have hfp := H3.frozen
  rcases atR_cases x h with ⟨e1, _⟩ | ⟨k, hk, e1, e2⟩
  · have hi : i = -1 := HAT.out.symm.trans e1
    subst hi
    have H5 := H3.take (Take.there _ (Take.there _ (Take.there _ (Take.here _ _))))
    have HS := Lib.hid (show t.set h P = (false, t) by unfold TabS.set; rw [if_neg (fun hh => by rw [HA.out.inb_no e1] at hh; exact Bool.false_ne_true hh.1)])
    have c2 := hset H5 h P
    rw [HS.out] at c2
    unfold PlaceS.val at c2
    clear e1
    go_wp2_with fail
    refine c2.mono ?_
    rintro e w3 ⟨rfl, H6⟩
    go_wp2
    go_ret2
    exact ⟨v, _, _, by simp, HA.out, by omega, H6.drop2.drop2.swap⟩
  · have hi : i = k := HAT.out.symm.trans e1
    subst hi
    obtain ⟨i1, i2⟩ := HA.out.inb_yes e1 hk e2
    have cm := hmayR H3 P
    unfold PlaceS.val at cm
    by_cases hp : P.ok
    · rw [decide_eq_true hp] at cm
      have HAG := Lib.hid (HA.out.set hp hk e2)
      have HS := Lib.hid (show t.set h P = (true, t.put h.toNat P) by unfold TabS.set; rw [if_pos ⟨i1, hp⟩])
      clear e1 e2 i1 i2 hp
      go_wp2_with fail
      refine cm.mono ?_
      rintro e w2 ⟨rfl, H4⟩
      clear cm hcp hcd hfp
      go_wp2_with (at_builtin; refine wpList_append_sl rfl (.tmp 92) _ _ rfl 113 4 32 elem_h _ 0 [] rfl (row.made (H4.alloc _) (Nat.le_refl _) (by decide) rfl rfl) _ x.length (hCells x) rfl ?_ (hCells_one _) ?_ ?_ ?_)
      · exact HRA.out _ (H4.alloc _).drop.drop.drop
      · unfold maxLen; omega
      · omega
      intro v' w3 H5
      obtain ⟨_, hv⟩ := row.open H5
      rcases hv with ⟨_, h0⟩ | ⟨g, cap, cur, rfl, hn, hcm, hcs, htk, H6⟩
      · omega
      have hfz := H6.frozen
      have hcl := H6.cells
      have hcp := H6.swap.cells
      have hcd := (H6.take (Take.there _ (Take.there _ (Take.here _ _)))).cells
      have hsz : x.length * 4 ≤ cur.size := by rw [hcs]; exact Nat.mul_le_mul_right _ (by omega)
      have hex : ∀ j, j < 4 → ∃ u, cur[k * 4 + j]? = some u := fun j hj => ⟨_, Array.getElem?_eq_getElem (by omega)⟩
      obtain ⟨u0, hu0⟩ := hex 0 (by omega)
      obtain ⟨u1, hu1⟩ := hex 1 (by omega)
      obtain ⟨u2, hu2⟩ := hex 2 (by omega)
      obtain ⟨u3, hu3⟩ := hex 3 (by omega)
      rw [← hcl] at hu0 hu1 hu2 hu3
      rw [Nat.add_zero] at hu0
      have HSET := Lib.hid (hCells_set hk hsz (by simpa using htk) ((h, P) : HE))
      have HCS := Lib.hid hcs
      clear hcl hex htk hcs H5
      have hn1 := H6.swap.ne
      have hn2 := (H6.take (Take.there _ (Take.there _ (Take.here _ _)))).ne
      have H7 := (((H6.set (k * 4) (.int .i64 h)).set (k * 4 + 1) (.int .i64 P.page)).set (k * 4 + 2) (.int .i64 P.obj)).set (k * 4 + 3) (.int .i64 P.len)
      have H8 := row.made (n := x.length) (xs := hCells (x.set k (h, P))) H7 hn hcm (by simpa using HCS.out) HSET.out
      have H9 := H8.take (Take.there _ (Take.there _ (Take.there _ (Take.there _ (Take.here _ _)))))
      have c2 := hset H9 h P
      rw [HS.out] at c2
      unfold PlaceS.val at c2
      clear H7 H6 HSET HCS H4 H3 HRA HA HAT H8 H9
      go_wp2_with fail
      refine c2.mono ?_
      clear c2 hcp hcd
      intro e w5 hh
      obtain ⟨h1, H10⟩ := hh
      subst h1
      go_wp2
      go_ret2
      exact ⟨_, _, _, rfl, HAG.out, by simp, by rw [List.length_set]; exact H10.swap.dropAt2.dropAt2.dropAt2⟩
    · rw [decide_eq_false hp] at cm
      have HS := Lib.hid (show t.set h P = (false, t) by unfold TabS.set; rw [if_neg (fun hh => hp hh.2)])
      clear e1 e2 i1 i2 hp
      go_wp2_with fail
      refine cm.mono ?_
      rintro e w2 ⟨rfl, H4⟩
      clear cm hcp hcd hfp
      have hcd := H4.swap.cells
      have H9 := H4.take (Take.there _ (Take.there _ (Take.there _ (Take.here _ _))))
      have c2 := hset H9 h P
      rw [HS.out] at c2
      unfold PlaceS.val at c2
      go_wp2_with fail
      refine c2.mono ?_
      rintro e w4 ⟨rfl, H10⟩
      go_wp2
      go_ret2
      exact ⟨v, _, _, by simp, HA.out, by omega, H10.drop2.drop2.swap⟩
end

end Go.Proofs.Ytfjdgjdkpmljkaa
