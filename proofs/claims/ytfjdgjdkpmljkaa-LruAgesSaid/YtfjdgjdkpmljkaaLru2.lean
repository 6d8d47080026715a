/-
  The order of entries: Oldest (a range over the chain's All).
-/
import Derived.Test.YtfjdgjdkpmljkaaLru1
import Derived.Test.YtfjdgjdkpmljkaaIt2
namespace Go.Proofs.Ytfjdgjdkpmljkaa
open Go.RowKit Go.Shelf

attribute [local go_sem] Oper.semAt_some

theorem Kept.lbox {B b : Nat} {xs : List Int} : Kept B (lbox b xs) := Kept.exh fun _ => Kept.grp (KeptL.cons Kept.pts (KeptL.cons Kept.row (KeptL.nil B)))
theorem Kept.chn {B b n : Nat} {l : List Nat} : Kept B (chn b n l) := Kept.exh fun _ => Kept.grp (KeptL.cons Kept.pur (KeptL.cons Kept.pts (KeptL.cons Kept.pts (KeptL.cons Kept.pts (KeptL.cons Kept.pts (KeptL.nil B))))))

section
variable {e : Env} {w : World} {R : List HP} {ob : Nat} {L : List Nat}

theorem Holds.two {X Y : HP} {A : List HP} (H : Holds e w (X :: Y :: A)) : Holds e w [X, Y] := H.imp fun h s => by
  obtain ⟨h1, h2, d, e1, e2, x, g1, g2, d', f1, f2, y, s⟩ := s
  exact ⟨h1, h2, d, e1, e2, x, g1, g2, d', f1, f2, y, trivial⟩

theorem lruOldest_nil (H : Holds e w R) (m : Int) : Calls Try.prog 58 #[.pointer none, .int .i64 m] w (Ret e (.slice none 0 0) R) := by
  refine (callsIn_wide (n := 3)).1 ?_
  refine callsIn_of_wp_marks Try.func58 rfl trivial ?_ rfl
  simp only [Try.ntmps58, List.size_toArray, List.length_cons, List.length_nil, Nat.reduceAdd, Nat.reduceSub, Array.replicate_succ, Array.replicate_zero, List.push_toArray, List.append_toArray, List.nil_append, List.cons_append]
  gi_wp2
  exact ⟨_, results_tmp rfl _ _ _, rfl, (H.alloc _).drop⟩

set_option maxRecDepth 100000 in
set_option maxHeartbeats 4000000 in
theorem lruOldest_ok (H : Holds e w (lruH ob L :: R)) (m : Int) (hm : 1 ≤ m) : Calls Try.prog 58 #[.pointer (some ⟨ob, 0, none⟩), .int .i64 m] w (RetEx e (fun v : Value => v) (fun v => row v 3 1 (takeM m L).length (ints (nats (takeM m L))) :: lruH ob L :: R)) := by
  obtain ⟨h2, hb2, hback, H'⟩ := H.toFrm
  obtain ⟨b, h⟩ := lru_open H'
  have hmf := hmf
  have hc0 := h.cells
  have ha := h.alloc (.cells #[.int .i64 m] 3)
  have hca := ha.swap.cells
  have ha2 := ha.alloc (.cells #[.slice none 0 0] 56)
  have hcb := (ha2.take (Take.there _ (Take.there _ (Take.here _ _)))).cells
  refine (callsIn_wide (n := 3)).1 ?_
  refine callsIn_of_wp_marks Try.func58 rfl trivial ?_ rfl
  simp only [Try.ntmps58, List.size_toArray, List.length_cons, List.length_nil, Nat.reduceAdd, Nat.reduceSub, Array.replicate_succ, Array.replicate_zero, List.push_toArray, List.append_toArray, List.nil_append, List.cons_append]
  gi_wp2
  refine ⟨trivial, callsIn_wide.2 ?_⟩
  refine (chAll_any (b := b) _ (.inr rfl) ha2).mono ?_
  rintro e w1 ⟨bc, rfl, H1⟩
  dsimp only at H1
  rw [World.size_alloc] at H1
  obtain ⟨b0, hb0⟩ : ∃ b0, w.heap.size = b0 := ⟨_, rfl⟩
  rw [hb0] at H1
  gi_wp2
  clear hb0 ha2 ha hcb hca hc0 h H' H
  generalize b0 + 1 = bo at *
  generalize b0 = bm at *
  have H2 := (lbox_new (H1.swap)).imp Sat.sw2
  have hf := chn_facts (H2.take (Take.there _ (Take.there _ (Take.there _ (Take.there _ (Take.here _ _))))))
  have hfr : ∀ q o, h2 q = some o → q < w1.heap.size := fun q o hq => by
    obtain ⟨g1, g2, _, f1, _, x, _⟩ := (H2.take (Take.there _ (Take.there _ (Take.there _ (Take.there _ (Take.there _ (Take.here _ _))))))).sat
    exact (Array.getElem?_eq_some_iff.1 (f1 _ _ (x q o hq))).1
  have hK : ∀ pre : List Int, KeptL w1.heap.size [lbox bo pre, pts bm (.cells #[.int .i64 m] 3 (0, 0)), pts bc (.cells #[.pointer (some ⟨b, 0, none⟩)] 50 (0, 0)), pts ob (.cells #[.pointer (some ⟨b, 0, none⟩)] 120 (0, 0)), chn b 513 L, frm h2] := fun pre =>
    KeptL.cons Kept.lbox (KeptL.cons Kept.pts (KeptL.cons Kept.pts (KeptL.cons Kept.pts (KeptL.cons Kept.chn (KeptL.cons (Kept.frm hfr) (KeptL.nil _))))))
  have hKc : KeptL w1.heap.size [pts bc (.cells #[.pointer (some ⟨b, 0, none⟩)] 50 (0, 0)), chn b 513 L] := KeptL.cons Kept.pts (KeptL.cons Kept.chn (KeptL.nil _))
  have hst := all_stops (E := e) (w := w1) (b := b) (N := 513) (bc := bc) (L := L) 2 (by omega) ((H1.take (Take.there _ (Take.there _ (Take.there _ (Take.there _ (Take.here _ _)))))).swap.two)
  refine wpIn_rangeFunc_ownG (w0 := w1) rfl (by omega) (gf := 76) (lb := #[.pointer (some ⟨bc, 0, none⟩)]) rfl trivial (enters_of Try.func76 (by kernel_rfl) rfl) hst
    (fun h1 h2 h => h2 (h1 h)) (fun W l o o' hl ho hc _ h => h.abides hKc (grownBy_putObj' W l o') (fun r e => by cases e; exact ⟨hl, o, ho, hc⟩)) (Below.refl _ _) (fun _ => rfl)
    (fun pre W => ((pre.length : Int) < m) ∧ Holds e W [lbox bo pre, pts bm (.cells #[.int .i64 m] 3 (0, 0)), pts bc (.cells #[.pointer (some ⟨b, 0, none⟩)] 50 (0, 0)), pts ob (.cells #[.pointer (some ⟨b, 0, none⟩)] 120 (0, 0)), chn b 513 L, frm h2])
    (fun c pre W => c = .exit 0 ∧ (pre.length : Int) = m ∧ Holds e W [lbox bo pre, pts bm (.cells #[.int .i64 m] 3 (0, 0)), pts bc (.cells #[.pointer (some ⟨b, 0, none⟩)] 50 (0, 0)), pts ob (.cells #[.pointer (some ⟨b, 0, none⟩)] 120 (0, 0)), chn b 513 L, frm h2])
    (fun s W W' row hs hg hr => ⟨hs.1, hs.2.abides (hK s) hg hr⟩) (fun c s W W' row hs hg hr => ⟨hs.1, hs.2.1, hs.2.2.abides (hK s) hg hr⟩) ⟨by simp; omega, H2⟩
    (fun x => { tmps := #[.pointer (some ⟨ob, 0, none⟩), .int .i64 m, undef, .pointer (some ⟨bm, 0, none⟩), .slice none 0 0, .pointer (some ⟨bo, 0, none⟩), .int .i64 x, .pointer (some ⟨ob, 0, none⟩), .bool false, .bool false, .int .i64 m, .bool (decide (m < 1)), .bool (decide (m < 1)), .pointer (some ⟨ob, 0, none⟩), .pointer (some ⟨ob, 0, none⟩), .pointer (some ⟨ob, 0, none⟩), .pointer (some ⟨ob, 0, none⟩), .pointer (some ⟨b, 0, none⟩), .func (.func 76) #[] #[.pointer (some ⟨bc, 0, none⟩)], .int .i64 x, undef, undef, undef, undef, undef, undef, undef, undef, undef], defers := [] }) ?assign ?body ?done ?stop
  case assign =>
    intro l x W K hK
    gi_wp2
    exact hK
  case body =>
    rintro l pre x W ⟨hlt, HI⟩ hlen
    have H3 := (HI.addOth (hK pre)).swap
    obtain ⟨v, H4⟩ := lbox_open H3
    have hpl : pre.length ≤ 513 := by omega
    have hc4 := H4.cells
    have hf4 := H4.frozen
    gi_wp2_with (gi_at_builtin; refine wpListIn_append_sl rfl _ _ _ rfl 3 1 8 elem_int _ _ (ints pre) rfl ((H4.alloc _).take (Take.there _ (Take.there _ (Take.here _ _)))) _ 1 (ints [x]) rfl ?_ (ints_one _) ?_ ?_ ?_)
    · exact reads_lit _ [x] _ _ rfl
    · unfold maxLen; omega
    · omega
    intro v' w2 H5 hsz
    obtain ⟨a', c', rfl⟩ := row_shape H5
    have H6 := H5.take (Take.there _ (Take.there _ (Take.here _ _)))
    have hc6 := H6.cells
    have hf6 := H6.frozen
    have H7 := H6.set 0 (.slice a' (pre.length + 1) c')
    have H8 := H7.take (Take.there _ (Take.there _ (Take.there _ (Take.there _ (Take.here _ _)))))
    have hc8 := H8.cells
    rw [← ints_append] at H7
    have H9 : Holds e (w2.setCell ⟨bo, 0, none⟩ (.slice a' (pre.length + 1) c')) (lbox bo (pre ++ [x]) :: oth w1.heap.size W :: [pts bm (.cells #[.int .i64 m] 3 (0, 0)), pts bc (.cells #[.pointer (some ⟨b, 0, none⟩)] 50 (0, 0)), pts ob (.cells #[.pointer (some ⟨b, 0, none⟩)] 120 (0, 0)), chn b 513 L, frm h2]) :=
      lbox_close (v := .slice a' (pre.length + 1) c') (by rw [List.length_append]; exact (H7.take (Take.there _ (Take.there _ (Take.here _ _)))).drop)
    have hkf : KeepsFrom w1.heap.size W (w2.setCell ⟨bo, 0, none⟩ (.slice a' (pre.length + 1) c')) := Holds.keepsFrom H9.swap (by simp at hsz ⊢; omega)
    have H10 := H9.swap.drop
    have HKF := Lib.hid hkf
    clear hkf H7 H8 H6 H5 H4 H3
    by_cases hend : (pre.length : Int) + 1 = m
    · gi_wp2
      exact ⟨HKF.out, rfl, by simp; omega, H10⟩
    · gi_wp2
      exact ⟨HKF.out, fun _ => ((H10.take (Take.there _ (Take.there _ (Take.there _ (Take.there _ (Take.here _ _)))))).take (Take.there _ (Take.there _ (Take.there _ (Take.here _ _))))).two, by simp; omega, H10⟩
  case done =>
    rintro D ys W hD rfl ⟨hlt, HI⟩ hKd
    rw [nats_length'] at hlt
    obtain ⟨v, H3⟩ := lbox_open HI
    obtain ⟨a', c', rfl⟩ := row_shape H3.swap
    have hc3 := H3.cells
    gi_wp2
    refine ⟨by simp, .inl ⟨_, _, rfl, run_takeDeferred hKd, ?_⟩⟩
    refine ⟨_, results_tmp rfl _ _ _, _, rfl, ?_⟩
    have hys : nats L = nats (takeM m L) := by rw [takeM_all (by omega)]
    have hK3 : KeptL w1.heap.size [pts bo (.cells #[.slice a' ((nats L)).length c'] 56 (0, 0)), row (.slice a' ((nats L)).length c') 3 1 ((nats L)).length (ints (nats L)), pts bm (.cells #[.int .i64 m] 3 (0, 0)), pts bc (.cells #[.pointer (some ⟨b, 0, none⟩)] 50 (0, 0)), pts ob (.cells #[.pointer (some ⟨b, 0, none⟩)] 120 (0, 0)), chn b 513 L, frm h2] :=
      KeptL.cons Kept.pts (KeptL.cons Kept.row (KeptL.cons Kept.pts (KeptL.cons Kept.pts (KeptL.cons Kept.pts (KeptL.cons Kept.chn (KeptL.cons (Kept.frm hfr) (KeptL.nil _)))))))
    have H4 := H3.abides hK3 (grownBy_putObj' W D (.deferred none)) (fun r e => by cases e; exact ⟨hD, _, hKd, rfl⟩)
    have H5 := H4.drop.imp fun _ => Sat.cons fun _ s => Sat.drop (Sat.drop s)
    have H6 := (hback _ _ (Holds.mkGrp (L := [row _ _ _ _ _, pts _ _, chn _ _ _]) H5)).ungrp
    have H7 := (lru_close (H6.swap.imp Sat.sw2)).swap
    rw [show (takeM m L).length = ((nats L)).length by rw [hys, nats_length'], ← hys]
    exact H7
  case stop =>
    rintro D c pre W hD hpre ⟨rfl, hlen, HI⟩ hKd
    obtain ⟨v, H3⟩ := lbox_open HI
    obtain ⟨a', c', rfl⟩ := row_shape H3.swap
    have hc3 := H3.cells
    gi_wp2
    refine ⟨by simp, .inl ⟨_, _, rfl, run_takeDeferred hKd, ?_⟩⟩
    refine ⟨_, results_tmp rfl _ _ _, _, rfl, ?_⟩
    have hys : pre = nats (takeM m L) := by
      have h1 := List.prefix_iff_eq_take.1 hpre
      have h2 := hpre.length_le
      rw [nats_length'] at h2
      have h3 : takeM m L = L.take pre.length := by
        have := takeM_cut (m := m) (A := L.take pre.length) (B := L.drop pre.length) (by rw [List.length_take]; omega) (by omega)
        rwa [List.take_append_drop] at this
      rw [h3]
      rw [h1]
      simp [nats, List.map_take]
    have hK3 : KeptL w1.heap.size [pts bo (.cells #[.slice a' (pre).length c'] 56 (0, 0)), row (.slice a' (pre).length c') 3 1 (pre).length (ints pre), pts bm (.cells #[.int .i64 m] 3 (0, 0)), pts bc (.cells #[.pointer (some ⟨b, 0, none⟩)] 50 (0, 0)), pts ob (.cells #[.pointer (some ⟨b, 0, none⟩)] 120 (0, 0)), chn b 513 L, frm h2] :=
      KeptL.cons Kept.pts (KeptL.cons Kept.row (KeptL.cons Kept.pts (KeptL.cons Kept.pts (KeptL.cons Kept.pts (KeptL.cons Kept.chn (KeptL.cons (Kept.frm hfr) (KeptL.nil _)))))))
    have H4 := H3.abides hK3 (grownBy_putObj' W D (.deferred none)) (fun r e => by cases e; exact ⟨hD, _, hKd, rfl⟩)
    have H5 := H4.drop.imp fun _ => Sat.cons fun _ s => Sat.drop (Sat.drop s)
    have H6 := (hback _ _ (Holds.mkGrp (L := [row _ _ _ _ _, pts _ _, chn _ _ _]) H5)).ungrp
    have H7 := (lru_close (H6.swap.imp Sat.sw2)).swap
    rw [show (takeM m L).length = (pre).length by rw [hys, nats_length'], ← hys]
    exact H7
end
end Go.Proofs.Ytfjdgjdkpmljkaa
