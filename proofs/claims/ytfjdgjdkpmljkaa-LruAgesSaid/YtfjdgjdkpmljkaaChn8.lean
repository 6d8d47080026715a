/-
  The chain: All, and what gathers all of it.
-/
import Derived.Test.YtfjdgjdkpmljkaaChn7
import Derived.Test.YtfjdgjdkpmljkaaRow2
namespace Go.Proofs.Ytfjdgjdkpmljkaa
open Go.RowKit

theorem hmf : ∀ (fn : Fn) (first cap : Array Value) (w : World), (Instr.makeFunc fn first cap).run Try.prog w = .ok (.func fn first cap) w := fun _ _ _ _ => rfl

/-- The variable in block b is a slice of ints that owns its row. -/
def lbox (b : Nat) (xs : List Int) : HP := exh fun v : Value => grp [pts b (.cells #[v] 56 (0, 0)), row v 3 1 xs.length (ints xs)]

section
variable {e : Env} {w : World} {R : List HP} {b bl bm n : Nat} {l : List Nat} {xs : List Int} {m : Int}

theorem lbox_open (H : Holds e w (lbox bl xs :: R)) : ∃ v, Holds e w (pts bl (.cells #[v] 56 (0, 0)) :: row v 3 1 xs.length (ints xs) :: R) := by
  obtain ⟨v, h⟩ := Holds.exE H
  exact ⟨v, h.ungrp⟩
theorem lbox_close {v : Value} (H : Holds e w (pts bl (.cells #[v] 56 (0, 0)) :: row v 3 1 xs.length (ints xs) :: R)) : Holds e w (lbox bl xs :: R) :=
  Holds.mkExh v (Holds.mkGrp H)
theorem lbox_new (H : Holds e w (pts bl (.cells #[.slice none 0 0] 56 (0, 0)) :: R)) : Holds e w (lbox bl [] :: R) :=
  lbox_close (xs := []) (row.nil _ 1 H).swap

set_option maxHeartbeats 400000 in
theorem yield_any (H : Holds e w (lbox bl xs :: pts bm (.cells #[.int .i64 m] 3 (0, 0)) :: R)) (x : Int) (hl : xs.length ≤ 100000) :
    Calls Try.prog 74 #[.int .i64 x, .pointer (some ⟨bl, 0, none⟩), .pointer (some ⟨bm, 0, none⟩)] w (Ret e (.bool (decide ((xs.length : Int) + 1 ≠ m))) (lbox bl (xs ++ [x]) :: pts bm (.cells #[.int .i64 m] 3 (0, 0)) :: R)) := by
  obtain ⟨v, h⟩ := lbox_open H
  have hc := h.cells
  have hf := h.frozen
  go_enter Try.func74, Try.ntmps74
  go_wp2_with (at_builtin; refine wpList_append_sl rfl _ _ _ rfl 3 1 8 elem_int _ _ (ints xs) rfl ((h.alloc _).take (Take.there _ (Take.there _ (Take.here _ _)))) _ 1 (ints [x]) rfl ?_ (ints_one _) ?_ ?_ ?_)
  · exact reads_lit _ [x] _ _ rfl
  · unfold maxLen; omega
  · omega
  intro v' w2 H2
  obtain ⟨a', c', rfl⟩ := row_shape H2
  have H3 := H2.take (Take.there _ (Take.there _ (Take.here _ _)))
  have hc3 := H3.cells
  have hf3 := H3.frozen
  have H4 := H3.set 0 (.slice a' (xs.length + 1) c')
  have H5 := H4.take (Take.there _ (Take.there _ (Take.there _ (Take.here _ _))))
  have hc5 := H5.cells
  have hne := (H4.swap.drop).ne
  go_wp2_with fail
  go_ret
  refine ⟨by congr 2; simp [bne, BEq.beq], lbox_close (v := .slice a' (xs.length + 1) c') ?_⟩
  rw [← ints_append] at H4
  rw [List.length_append]
  exact (H4.take (Take.there _ (Take.there _ (Take.here _ _)))).drop

/-- What is told of l where m are wanted. -/
def takeM {α : Type} (m : Int) (l : List α) : List α := if 0 < m ∧ m < l.length then l.take m.toNat else l
theorem takeM_all {α : Type} {m : Int} {l : List α} (h : m ≤ 0 ∨ (l.length : Int) ≤ m) : takeM m l = l := if_neg (by omega)
theorem takeM_cut {α : Type} {m : Int} {A B : List α} (h : (A.length : Int) = m) (h0 : 0 < m) : takeM m (A ++ B) = A := by
  unfold takeM
  split
  · rw [show m.toNat = A.length by omega]; simp
  · next hn =>
    have : B.length = 0 := by simp at hn; omega
    rw [List.length_eq_zero_iff.1 this, List.append_nil]
def nats (l : List Nat) : List Int := l.map (fun x : Nat => (x : Int))
def ne0 : List Nat → Bool
  | [] => false
  | _ :: _ => true
theorem ne0_eq (l : List Nat) : decide (l ≠ []) = ne0 l := by cases l <;> simp [ne0]
def chMeas (l : List Nat) (n ok : Value) : Nat := match ok with
  | .bool true => (l.dropWhile (· ≠ (intOf n).toNat)).length
  | _ => 0

theorem chMeas_at {A B : List Nat} {y : Nat} {k : IntKind} (h : y ∉ A) : chMeas (A ++ y :: B) (.int k y) (.bool true) = B.length + 1 := by
  unfold chMeas
  rw [List.dropWhile_append_of_pos (by intro a ha; have hne : a ≠ y := fun e => h (e ▸ ha); simp [intOf, hne])]
  simp [intOf]
theorem chMeas_lt {l A B : List Nat} {x : Nat} {k : IntKind} (hl : l = A ++ x :: B) (hn : l.Nodup) : chMeas l (.int k (hd0 B)) (.bool (ne0 B)) < chMeas l (.int k x) (.bool true) := by
  have hnA : ∀ {A B : List Nat} {x : Nat}, l = A ++ x :: B → x ∉ A := by
    intro A B x hl h
    rw [hl, List.nodup_append] at hn
    exact hn.2.2 x h x (by simp) rfl
  have h1 : chMeas l (.int k x) (.bool true) = B.length + 1 := by
    rw [hl]; exact chMeas_at (hnA hl)
  rw [h1]
  cases B with
  | nil => exact Nat.succ_pos _
  | cons y B =>
    have hl2 : l = (A ++ [x]) ++ y :: B := by rw [hl]; simp
    have h2 : chMeas l (.int k (hd0 (y :: B))) (.bool (ne0 (y :: B))) = B.length + 1 := by
      rw [show ne0 (y :: B) = true from rfl, hl2]; exact chMeas_at (hnA hl2)
    rw [h2]; simp

set_option maxHeartbeats 800000 in
theorem seq_any {bc : Nat} (H : Holds e w (lbox bl [] :: pts bm (.cells #[.int .i64 m] 3 (0, 0)) :: pts bc (.cells #[.pointer (some ⟨b, 0, none⟩)] 50 (0, 0)) :: chn b n l :: R)) :
    Calls Try.prog 76 #[.func (.func 74) #[] #[.pointer (some ⟨bl, 0, none⟩), .pointer (some ⟨bm, 0, none⟩)], .pointer (some ⟨bc, 0, none⟩)] w (Ret e (.tuple #[]) (lbox bl (nats (takeM m l)) :: pts bm (.cells #[.int .i64 m] 3 (0, 0)) :: pts bc (.cells #[.pointer (some ⟨b, 0, none⟩)] 50 (0, 0)) :: chn b n l :: R)) := by
  have H1 := H.take (Take.there _ (Take.there _ (Take.here _ _)))
  have H2 := H.take (Take.there _ (Take.there _ (Take.there _ (Take.here _ _))))
  have hf := chn_facts H2
  have hc := H1.cells
  go_enter Try.func76, Try.ntmps76
  go_wp2_with fail
  have co := cOldest H2
  rw [ne0_eq] at co
  refine (retQ co H).mono ?_
  rintro e w1 ⟨rfl, H1⟩
  clear H2 hc
  go_wp2_with fail
  go_loopw [3, 4] (fun q i wr => ∃ A B : List Nat, l = A ++ B ∧ q = .int .i64 (hd0 B) ∧ i = .bool (ne0 B) ∧ (m ≤ 0 ∨ (A.length : Int) < m) ∧ Holds e wr (lbox bl (nats A) :: pts bm (.cells #[.int .i64 m] 3 (0, 0)) :: pts bc (.cells #[.pointer (some ⟨b, 0, none⟩)] 50 (0, 0)) :: chn b n l :: R)) (fun q i _ => chMeas l q i)
  case atStart => exact ⟨[], l, rfl, rfl, rfl, by simp; omega, H1⟩
  case round =>
    obtain ⟨A, B, hl, rfl, rfl, hm, HH⟩ := hrel
    cases B with
    | nil =>
      rw [show ne0 [] = false from rfl]
      go_wp2_with fail
      go_end0
      rw [List.append_nil] at hl
      subst hl
      exact ⟨rfl, by rw [takeM_all (by omega)]; exact HH⟩
    | cons x B =>
      rw [show ne0 (x :: B) = true from rfl, show hd0 (x :: B) = (x : Int) from rfl]
      have hlen : (nats A).length = A.length := List.length_map _
      have hlA : A.length ≤ 4096 := by have := hf.2.2; rw [hl] at this; simp at this; omega
      have cy := yield_any HH (x : Int) (by omega)
      rw [hlen, show nats A ++ [(x : Int)] = nats (A ++ [x]) by simp [nats]] at cy
      by_cases hcut : (A.length : Int) + 1 = m
      · rw [decide_eq_false (by omega)] at cy
        go_wp2_with fail
        refine cy.mono ?_
        rintro e w3 ⟨rfl, H3⟩
        go_wp2_with fail
        refine bodyPost_ret (results_none rfl _ _ _) rfl ?_
        refine ⟨rfl, ?_⟩
        rw [show l = (A ++ [x]) ++ B by rw [hl]; simp, takeM_cut (by simp; omega) (by omega)]
        rw [show (A ++ [x]) ++ B = l by rw [hl]; simp]
        exact H3
      · rw [decide_eq_true (by omega)] at cy
        go_wp2_with fail
        refine cy.mono ?_
        rintro e w3 ⟨rfl, H3⟩
        have hc3 := (H3.take (Take.there _ (Take.there _ (Take.here _ _)))).cells
        have cn := cNewer (H3.take (Take.there _ (Take.there _ (Take.there _ (Take.here _ _))))) (x : Int)
        have hxA : x ∉ A := by
          intro h
          have hnd := hf.1
          rw [hl, List.nodup_append] at hnd
          exact hnd.2.2 x h x (by simp) rfl
        rw [if_pos (by simp [hl]), show nxt l (x : Int).toNat = B by rw [hl]; exact nxt_app hxA, ne0_eq] at cn
        have HL := Lib.hid hl
        have HND := Lib.hid hf.1
        clear hl hxA hf
        go_wp2_with fail
        refine (retQ cn H3).mono ?_
        rintro e w4 ⟨rfl, H4⟩
        go_wp2_with fail
        go_roundw
        case rel => exact ⟨A ++ [x], B, by rw [HL.out]; simp, rfl, rfl, by simp; omega, H4⟩
        case measure =>
          exact chMeas_lt HL.out HND.out

theorem chAll_any (v : Value) (hv : v = .pointer none ∨ v = .pointer (some ⟨b, 0, none⟩)) (H : Holds e w R) :
    Calls Try.prog 73 #[v] w (RetEx e (fun bc : Nat => .func (.func 76) #[] #[.pointer (some ⟨bc, 0, none⟩)]) (fun bc => pts bc (.cells #[v] 50 (0, 0)) :: R)) := by
  have hmf := hmf
  rcases hv with rfl | rfl
  all_goals
    go_enter Try.func73, Try.ntmps73
    go_wp2_with fail
    go_ret
    exact ⟨_, rfl, H.alloc _⟩

theorem fun_nil1 (d : Nat) (f : FuncId) (c : Array Value) (w : World) : (Op.equalIn (d + 1) 115 (.func (.func f) #[] c) .nilFunc).run Try.prog w = .ok false w := by
  simp [Op.equalIn, run_underlying Try.underlying115]
theorem fun_nil (f : FuncId) (c : Array Value) (w : World) : (binOp BinOp.eql 115 (.func (.func f) #[] c) .nilFunc).run Try.prog w = .ok (.bool false) w := by
  have h : (Op.equal 115 (.func (.func f) #[] c) .nilFunc).run Try.prog w = .ok false w := fun_nil1 9999 f c w
  simp [binOp, h]

set_option maxRecDepth 100000 in
set_option maxHeartbeats 800000 in
theorem all_any (H : Holds e w (chn b n l :: R)) (m : Int) :
    Calls Try.prog 47 #[.pointer (some ⟨b, 0, none⟩), .int .i64 m] w (RetEx e (fun v : Value => .tuple #[v, .bool true]) (fun v => row v 3 1 (takeM m l).length (ints (nats (takeM m l))) :: chn b n l :: R)) := by
  have hmf := hmf
  have hfn := fun_nil
  have H1 := H.alloc (.cells #[.int .i64 m] 3)
  go_enter Try.func47, Try.ntmps47
  go_wp2_with fail
  generalize w.heap.size = bm at *
  refine (chAll_any (b := b) _ (.inr rfl) H1).mono ?_
  rintro e w1 ⟨bc, rfl, H2⟩
  have H3 := H2.alloc (.cells #[.slice none 0 0] 56)
  dsimp only at H2 H3
  go_wp2_with fail
  have H4 := (lbox_new H3).imp Sat.sw2
  have HBX := H4
  generalize w1.heap.size = bl at *
  clear HBX
  refine (seq_any H4).mono ?_
  rintro e w2 ⟨rfl, H5⟩
  obtain ⟨v, H6⟩ := lbox_open H5
  obtain ⟨a', c', rfl⟩ := row_shape H6.swap
  have hc6 := H6.cells
  go_wp2_with fail
  go_ret2
  rw [show (nats (takeM m l)).length = (takeM m l).length from List.length_map _] at *
  exact ⟨_, rfl, (H6.drop).imp fun _ s => Sat.cons (fun _ s => Sat.drop (Sat.drop s)) s⟩

set_option maxHeartbeats 800000 in
theorem seq_nil {bc : Nat} {Y : Value} (H : Holds e w (pts bc (.cells #[.pointer none] 50 (0, 0)) :: R)) :
    Calls Try.prog 76 #[Y, .pointer (some ⟨bc, 0, none⟩)] w (Ret e (.tuple #[]) (pts bc (.cells #[.pointer none] 50 (0, 0)) :: R)) := by
  have hc := H.cells
  go_enter Try.func76, Try.ntmps76
  go_wp2_with fail
  refine (retQ chOldest_nil H).mono ?_
  rintro e w1 ⟨rfl, H1⟩
  go_wp2_with fail
  refine wp_loop_rounds 1 ?_
  rw [rounds_succ]
  go_wp2
  go_end0
  exact ⟨rfl, H1⟩

set_option maxRecDepth 100000 in
set_option maxHeartbeats 800000 in
theorem all_nil (H : Holds e w R) (m : Int) :
    Calls Try.prog 47 #[.pointer none, .int .i64 m] w (Ret e (.tuple #[.slice none 0 0, .bool true]) R) := by
  have hmf := hmf
  have hfn := fun_nil
  have H1 := H.alloc (.cells #[.int .i64 m] 3)
  go_enter Try.func47, Try.ntmps47
  go_wp2_with fail
  generalize w.heap.size = bm at *
  refine (chAll_any (b := 0) _ (.inl rfl) H1).mono ?_
  rintro e w1 ⟨bc, rfl, H2⟩
  have H3 := H2.alloc (.cells #[.slice none 0 0] 56)
  dsimp only at H2 H3
  go_wp2_with fail
  generalize w1.heap.size = bl at *
  refine (seq_nil H3.swap).mono ?_
  rintro e w2 ⟨rfl, H5⟩
  have hc6 := H5.swap.cells
  go_wp2_with fail
  go_ret2
  exact ⟨rfl, H5.drop.drop.drop⟩
end
end Go.Proofs.Ytfjdgjdkpmljkaa
