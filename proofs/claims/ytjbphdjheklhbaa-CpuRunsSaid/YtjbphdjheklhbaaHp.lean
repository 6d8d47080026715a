/-
  Package heap: a model as a memory.
-/
import Derived.Test.YtjbphdjheklhbaaMod10
namespace Go.Proofs.Ytjbphdjheklhbaa
open Go.RowKit

def memV (m : Nat) : Value := .iface 110 (.agg #[.pointer (some ⟨m, 0, none⟩)])
section
variable {e : Env} {w : World} {R : List HP} {m : Nat} {M : List Pg}
theorem hpFlat : Calls Try.prog 12 #[.pointer (some ⟨m, 0, none⟩)] w (Quiet w (memV m)) := by
  go_enter Try.func12, Try.ntmps12
  go_wp2_with fail
  go_ret
  exact ⟨rfl, 0, rfl⟩
theorem reads_op {blk : Nat} {T : TypeId} {xs : List Value} (n size : Nat) (hx : xs.length = n * size) (H : Holds e w (pts blk (.cells xs.toArray T (0, 0)) :: R)) : Reads w (.slice (some ⟨blk, 0, none⟩) n n) size n xs := by
  refine ⟨hx, .inr ⟨_, _, rfl, Nat.le_refl _, fun j u hj => ?_⟩⟩
  rw [Addr.add_at, Nat.zero_add, H.cells]
  simpa using hj

set_option maxRecDepth 100000 in
set_option maxHeartbeats 1000000 in
theorem flatLoad {a : Nat} (ha : a < 18446744073709551616) (n : Int) (hn0 : -9223372036854775808 ≤ n) (hn1 : n ≤ 9223372036854775807) (H : Holds e w (modH m M :: R)) :
    Calls Try.prog 131 #[.agg #[.pointer (some ⟨m, 0, none⟩)], .int .u64 a, .int .i64 n] w
      (RetEx e (fun d : Value => .tuple #[d, .int .i64 (chk M a n 1)]) (fun d => bts d (rdE M a n 1) :: modH m M :: R)) := by
  have H1 := (H.alloc (.cells #[.pointer (some ⟨m, 0, none⟩)] 110)).alloc (.cells (OpS.cells ⟨3, 0, n, a, .slice none 0 0, []⟩).toArray 30)
  rw [World.size_alloc] at H1
  have CD : Hid (∀ w' blk, Holds e w' (modH m M :: pts blk (.cells (OpS.cells ⟨3, 0, n, a, .slice none 0 0, []⟩).toArray 30 (0, 0)) :: R) → Calls Try.prog 10 #[.pointer (some ⟨m, 0, none⟩), .slice (some ⟨blk, 0, none⟩) 1 1] w'
      (RetEx e (fun x : Value × Value => x.1) (fun x => row x.1 104 3 1 [.int .i64 (chk M a n 1), .int .i64 0, x.2] :: bts x.2 (rdE M a n 1) :: modH m M :: R))) := Lib.hid fun w' blk h =>
    (modDo1R ⟨3, 0, n, a, .slice none 0 0, []⟩ 1 (.inl ⟨rfl, rfl⟩) hn0 hn1 (.slice (some ⟨blk, 0, none⟩) 1 1) (fun w'' g => reads_op 1 5 rfl g) ⟨ha, fun w'' _ => reads_none _ _, by simp⟩ h).mono fun en w'' ⟨x, h1, h2⟩ => ⟨x, h1, h2.d3⟩
  have H2 : Holds e _ (modH m M :: pts (w.heap.size + 1) (.cells (OpS.cells ⟨3, 0, n, a, .slice none 0 0, []⟩).toArray 30 (0, 0)) :: R) := H1.re 3 [2, 0]
  unfold OpS.cells at H2 CD
  clear H H1
  generalize rdE M a n 1 = out at *
  generalize chk M a n 1 = E at *
  go_enter Try.func131, Try.ntmps131
  go_wp2_with fail
  refine (CD.out _ _ H2).mono ?_
  rintro en w1 ⟨⟨v, d⟩, rfl, H3⟩
  dsimp only at *
  obtain ⟨hl, hx⟩ := row.open H3
  rcases hx with ⟨_, h0⟩ | ⟨g, cap, cur, rfl, hc1, hc2, hc3, hc4, H4⟩
  · cases h0
  obtain ⟨av, cv, hdv⟩ := (bts.reads H4.swap).shape
  obtain ⟨lv, hlv⟩ : ∃ lv, out.length = lv := ⟨_, rfl⟩
  rw [hlv] at hdv
  subst hdv
  have hcur : ∀ j, j < 3 → cur[j]? = [Value.int .i64 E, .int .i64 0, .slice av lv cv][j]? := fun j hj => by
    rw [← hc4, List.getElem?_take, if_pos (by omega), Array.getElem?_toList]
  have c0 : w1.cell? ⟨g, 0, none⟩ = some (.int .i64 E) := (H4.cells 0).trans (hcur 0 (by omega))
  have c1 : w1.cell? ⟨g, 1, none⟩ = some (.int .i64 0) := (H4.cells 1).trans (hcur 1 (by omega))
  have c2 : w1.cell? ⟨g, 2, none⟩ = some (.slice av lv cv) := (H4.cells 2).trans (hcur 2 (by omega))
  have HH := Lib.hid H4.drop
  clear H4 H3 H2 hc1 hc2 hc3 hc4 hl hcur hlv CD
  go_wp2_with fail
  go_quiet (fail)
  go_wp2_with fail
  go_ret2
  exact ⟨.slice av lv cv, rfl, (HH.out.alloc _).drop.drewN _⟩

set_option maxRecDepth 100000 in
set_option maxHeartbeats 1000000 in
theorem flatStore {a : Nat} (ha : a < 18446744073709551616) {d : Value} {ds : List UInt8} (hr : ∀ w', Holds e w' R → RdB w' d ds) (hl : ds.length ≤ 4611686018427387904) (H : Holds e w (modH m M :: R)) :
    Calls Try.prog 132 #[.agg #[.pointer (some ⟨m, 0, none⟩)], .int .u64 a, d] w
      (Ret e (.int .i64 (chk M a ds.length 2)) (modH m (stoP M a ds) :: R)) := by
  obtain ⟨ad, c, rfl⟩ := (hr w H.drop).shape
  have H1 := (H.alloc (.cells #[.pointer (some ⟨m, 0, none⟩)] 110)).alloc (.cells (OpS.cells ⟨4, 0, 0, a, .slice ad ds.length c, ds⟩).toArray 30)
  rw [World.size_alloc] at H1
  have CD : Hid (∀ w' blk, Holds e w' (modH m M :: pts blk (.cells (OpS.cells ⟨4, 0, 0, a, .slice ad ds.length c, ds⟩).toArray 30 (0, 0)) :: R) → Calls Try.prog 10 #[.pointer (some ⟨m, 0, none⟩), .slice (some ⟨blk, 0, none⟩) 1 1] w'
      (RetEx e (fun v : Value => v) (fun v => row v 104 3 1 [.int .i64 (chk M a ds.length 2), .int .i64 0, .slice none 0 0] :: modH m (stoP M a ds) :: R))) := Lib.hid fun w' blk h =>
    (modDo1 ⟨4, 0, 0, a, .slice ad ds.length c, ds⟩ (.slice (some ⟨blk, 0, none⟩) 1 1) (fun w'' g => reads_op 1 5 rfl g) (.inr (.inr rfl)) ⟨ha, fun w'' g => hr _ g.drop, hl⟩ h).mono fun en w'' ⟨x, h1, h2⟩ => ⟨x.1, h1, h2.d2⟩
  have H2 : Holds e _ (modH m M :: pts (w.heap.size + 1) (.cells (OpS.cells ⟨4, 0, 0, a, .slice ad ds.length c, ds⟩).toArray 30 (0, 0)) :: R) := H1.re 3 [2, 0]
  unfold OpS.cells at H2 CD
  clear H H1 hr
  generalize stoP M a ds = M' at *
  generalize chk M a ds.length 2 = E at *
  go_enter Try.func132, Try.ntmps132
  go_wp2_with fail
  refine (CD.out _ _ H2).mono ?_
  rintro en w1 ⟨v, rfl, H3⟩
  dsimp only at *
  obtain ⟨hl, hx⟩ := row.open H3
  rcases hx with ⟨_, h0⟩ | ⟨g, cap, cur, rfl, hc1, hc2, hc3, hc4, H4⟩
  · cases h0
  have hcur : ∀ j, j < 3 → cur[j]? = [Value.int .i64 E, .int .i64 0, .slice none 0 0][j]? := fun j hj => by
    rw [← hc4, List.getElem?_take, if_pos (by omega), Array.getElem?_toList]
  have c0 : w1.cell? ⟨g, 0, none⟩ = some (.int .i64 E) := (H4.cells 0).trans (hcur 0 (by omega))
  have HH := Lib.hid H4.drop
  clear H4 H3 H2 hc1 hc2 hc3 hc4 hl hcur CD
  go_wp2_with fail
  go_ret
  exact ⟨rfl, HH.out⟩
end
end Go.Proofs.Ytjbphdjheklhbaa
