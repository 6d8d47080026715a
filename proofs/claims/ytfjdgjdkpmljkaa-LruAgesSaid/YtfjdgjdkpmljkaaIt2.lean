/-
  The chain's All as an iterator that a loop ranges over.
-/
import Derived.Test.YtfjdgjdkpmljkaaChn8
import Derived.Test.YtfjdgjdkpmljkaaIt1
namespace Go.Proofs.Ytfjdgjdkpmljkaa
open Go.RowKit Go.Shelf

attribute [local go_sem] Oper.semAt_some

theorem grown_drewN (W : World) (n : Nat) : W.grownBy (W.drewN n) none := ⟨rfl, rfl, rfl, Nat.le_refl _, fun _ _ _ => rfl⟩
theorem nats_length' (l : List Nat) : (nats l).length = l.length := List.length_map _
def kpC (E : Env) (A : List HP) (W W' : World) : Prop := Holds E W A → Holds E W' A

section
variable {E : Env} {w : World} {R : List HP} {b N bc : Nat} {L : List Nat}

set_option maxRecDepth 100000 in
set_option maxHeartbeats 2000000 in
theorem all_stops (n : Nat) (hn : 1 ≤ n) (H : Holds E w [pts bc (.cells #[.pointer (some ⟨b, 0, none⟩)] 50 (0, 0)), chn b N L]) :
    SeqStopsK Fence.wide n Try.prog 76 #[.pointer (some ⟨bc, 0, none⟩)] (fun x : Int => #[Value.int .i64 x]) (kpC E [pts bc (.cells #[.pointer (some ⟨b, 0, none⟩)] 50 (0, 0)), chn b N L]) (fun ys => ys = nats L) (fun pre => pre <+: nats L) L.length w := by
  intro l J Jx W hW hJ hJx hY h0
  have HW := H.ofBelow hW
  have hc := HW.cells
  have co := cOldest HW.drop
  rw [ne0_eq] at co
  have hf := chn_facts HW.drop
  refine callsIn_of_wp Try.func76 rfl trivial ?_ rfl
  simp only [Try.ntmps76, List.size_toArray, List.length_cons, List.length_nil, Nat.reduceAdd, Nat.reduceSub, Array.replicate_succ, Array.replicate_zero, List.push_toArray, List.append_toArray, List.nil_append, List.cons_append]
  gi_wp2
  refine ⟨trivial, callsIn_wide.2 ?_⟩
  refine co.mono ?_
  rintro e w1 ⟨rfl, n1, rfl⟩
  have H1 := HW.drewN n1
  have h1 : J [] (W.drewN n1) := hJ _ _ _ none h0 (grown_drewN W n1) (fun r e => by cases e)
  clear co hc
  gi_wp2
  gi_loopw [3, 4] (fun q i wr => ∃ A B : List Nat, L = A ++ B ∧ q = .int .i64 (hd0 B) ∧ i = .bool (ne0 B) ∧ J (nats A) wr ∧ Holds E wr [pts bc (.cells #[.pointer (some ⟨b, 0, none⟩)] 50 (0, 0)), chn b N L]) (fun q i _ => chMeas L q i)
  case atStart => exact ⟨[], L, rfl, rfl, rfl, h1, H1⟩
  case round =>
    obtain ⟨A, B, hl, rfl, rfl, hJA, HH⟩ := hrel
    cases B with
    | nil =>
      rw [show ne0 [] = false from rfl]
      gi_wp2
      go_end0
      rw [List.append_nil] at hl
      subst hl
      exact ⟨⟨_, rfl⟩, .inl ⟨_, rfl, hJA⟩⟩
    | cons x B =>
      rw [show ne0 (x :: B) = true from rfl, show hd0 (x :: B) = (x : Int) from rfl]
      obtain ⟨fn, tmps, assign, body, hy, hR⟩ := hY (nats A) (x : Int) wr hJA (by rw [hl, nats_length']; simp)
      have hxA : x ∉ A := by
        intro h
        have hnd := hf.1
        rw [hl, List.nodup_append] at hnd
        exact hnd.2.2 x h x (by simp) rfl
      have hA1 : nats A ++ [(x : Int)] = nats (A ++ [x]) := by simp [nats]
      have hl2 : L = (A ++ [x]) ++ B := by rw [hl]; simp
      rw [hA1] at hR
      have HL := Lib.hid hl
      have HL2 := Lib.hid hl2
      have HXA := Lib.hid hxA
      have HND := Lib.hid hf.1
      clear hl hl2 hxA hf hA1
      gi_wp2
      refine hR.mono ?_
      rintro e W3 (⟨rfl, hJ3, hk3⟩ | ⟨rfl, hJx3⟩)
      · have H3 := hk3 HH
        have hc3 := H3.cells
        have cn := cNewer H3.drop (x : Int)
        rw [if_pos (by simp [HL.out]), show nxt L (x : Int).toNat = B by rw [HL.out]; exact nxt_app HXA.out, ne0_eq] at cn
        gi_wp2
        refine ⟨trivial, callsIn_wide.2 ?_⟩
        refine cn.mono ?_
        rintro e w4 ⟨rfl, n4, rfl⟩
        have H4 := H3.drewN n4
        have h4 : J (nats (A ++ [x])) (W3.drewN n4) := hJ _ _ _ none hJ3 (grown_drewN W3 n4) (fun r e => by cases e)
        gi_wp2
        go_roundw
        case rel => exact ⟨A ++ [x], B, HL2.out, rfl, rfl, h4, H4⟩
        case measure => exact chMeas_lt HL.out HND.out
      · gi_wp2
        refine bodyPost_ret (results_none rfl _ _ _) rfl ?_
        exact ⟨⟨_, rfl⟩, .inr ⟨_, ⟨nats B, by rw [HL2.out]; simp [nats]⟩, hJx3⟩⟩
end
end Go.Proofs.Ytfjdgjdkpmljkaa
