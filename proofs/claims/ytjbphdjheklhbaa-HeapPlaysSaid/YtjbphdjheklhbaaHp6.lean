/-
  Package heap: take, Alloc.
-/
import Derived.Test.YtjbphdjheklhbaaFl
namespace Go.Proofs.Ytjbphdjheklhbaa
open Go.RowKit

def up16 (n : Nat) : Nat := ((n - 1) / 16 + 1) * 16
theorem up16_bd {n : Nat} (h : 1 ≤ n) : n ≤ up16 n ∧ up16 n < n + 16 ∧ up16 n % 16 = 0 := by unfold up16; omega
/-- The memory behind a block was taken. -/
def takeM (M : List Pg) (base : Nat) (b : BlkS) (need : Nat) : List Pg :=
  wrb (if need < b.size then wrb M (base + b.o + need) (le 8 (b.size - need)) else M) (base + b.o) (le 8 (need + 1))
def fits (need : Nat) (b : BlkS) : Bool := !b.used && decide (need ≤ b.size)
def allocV (base : Nat) : Option BlkS → Value
  | some b => .tuple #[.int .u64 ((base + b.o + 8 : Nat) : Int), .int .i64 0]
  | none => .tuple #[.int .u64 0, .int .i64 6]
def allocM (M : List Pg) (base need : Nat) : Option BlkS → List Pg
  | some b => takeM M base b need
  | none => M

section
variable {e : Env} {w : World} {R : List HP} {m n : Nat} {M : List Pg}
set_option maxRecDepth 100000 in
theorem numUp (k : Nat) (h1 : 1 ≤ k) (h2 : k ≤ 1000000) : Calls Try.prog 49 #[.int .i64 k, .int .i64 16] w (Quiet w (.int .i64 (up16 k))) := by
  have e1 : (k : Int) - 1 = ((k - 1 : Nat) : Int) := by omega
  obtain ⟨k1, hk1⟩ : ∃ k1, k - 1 = k1 := ⟨_, rfl⟩
  have hu : up16 k = (k1 / 16 + 1) * 16 := by unfold up16; rw [hk1]
  rw [hk1] at e1
  rw [hu]
  obtain ⟨q, hq⟩ : ∃ q, k1 / 16 = q := ⟨_, rfl⟩
  have e2 : (k1 : Int) / 16 = q := by omega
  have hqb : q ≤ 100000 := by omega
  have hkb : k1 ≤ 1000000 := by omega
  rw [hq]
  have e3 : (q : Int) + 1 = ((q + 1 : Nat) : Int) := by omega
  obtain ⟨q1, hq1⟩ : ∃ q1, q + 1 = q1 := ⟨_, rfl⟩
  rw [hq1] at e3 ⊢
  have e4 : (q1 : Int) * 16 = ((q1 * 16 : Nat) : Int) := by omega
  obtain ⟨q2, hq2⟩ : ∃ q2, q1 * 16 = q2 := ⟨_, rfl⟩
  rw [hq2] at e4 ⊢
  have b1 : q1 ≤ 100001 := by omega
  have b2 : q2 ≤ 2000000 := by omega
  have d1 : decide ((k : Int) < 1) = false := by simp; omega
  have d2 : decide ((4611686018427387904 : Int) < (k : Int)) = false := by simp; omega
  clear hk1 hu hq hq1 hq2
  go_enter Try.func49, Try.ntmps49
  go_wp2_with fail
  go_ret
  exact ⟨rfl, 0, rfl⟩

set_option maxRecDepth 100000 in
set_option maxHeartbeats 1000000 in
theorem hpTake {h base size need : Nat} (b : BlkS) (F : Fl n M) (hsz : base + size ≤ 4096 * n) (hs6 : size ≤ 65536) (hb : b.o + b.size ≤ size) (hn1 : 16 ≤ need) (hn2 : need ≤ b.size) (hn3 : need % 16 = 0) (hn4 : b.size % 16 = 0)
    (H : Holds e w (pts h (hpObj m base size) :: modH m M :: R)) :
    Calls Try.prog 50 #[.pointer (some ⟨h, 0, none⟩), b.val base, .int .i64 need] w
      (Ret e (.tuple #[.int .u64 ((base + b.o + 8 : Nat) : Int), .int .i64 0]) (pts h (hpObj m base size) :: modH m (takeM M base b need) :: R)) := by
  have hsm := F.small
  obtain ⟨o, s, u⟩ := b
  dsimp only at *
  obtain ⟨bx, hbx⟩ : ∃ bx, w.heap.size = bx := ⟨_, rfl⟩
  have H1 : Holds e (w.alloc (.cells #[.int .u64 ((base + o + 8 : Nat) : Int), .int .i64 s, .bool u] 53)) (pts h (hpObj m base size) :: pts bx (.cells #[.int .u64 ((base + o + 8 : Nat) : Int), .int .i64 s, .bool u] 53) :: modH m M :: R) := hbx ▸ (H.alloc _).swap
  have CP : Hid (∀ w' X, Holds e w' (pts h (hpObj m base size) :: X) → Calls Try.prog 48 #[.pointer (some ⟨h, 0, none⟩), (BlkS.mk o s u).val base] w' (Ret e (.int .i64 o) (pts h (hpObj m base size) :: X))) := Lib.hid fun w' X h' => hpPlace ⟨o, s, u⟩ (by show base + o + 8 < _; omega) (by show o ≤ _; omega) h'
  have CW : Hid (∀ (w' : World) (X : List HP) (M' : List Pg) (at' sz : Nat) (us : Bool), Fl n M' → at' + 8 ≤ size → sz ≤ 65536 → Holds e w' (pts h (hpObj m base size) :: modH m M' :: X) → Calls Try.prog 47 #[.pointer (some ⟨h, 0, none⟩), .int .i64 at', .int .i64 sz, .bool us] w' (Ret e (.int .i64 0) (pts h (hpObj m base size) :: modH m (wrb M' (base + at') (le 8 (sz + us.toNat))) :: X))) := Lib.hid fun w' X M' at' sz us F' h1 h2 h' => by
    have := hpWrite at' sz (by omega) (by omega) h2 us h'
    have h0 : chk M' (base + at') 8 2 = 0 := F'.chk0 (k := 8) (.inr rfl) (by omega) (by omega) (by omega)
    rw [F'.sto (by rw [le_length]; omega) (by rw [le_length]; omega) (by rw [le_length]; omega), h0] at this
    exact this
  have e1 : (o : Int) + (need : Int) = ((o + need : Nat) : Int) := by omega
  obtain ⟨on, hon⟩ : ∃ on, o + need = on := ⟨_, rfl⟩
  have e2 : (s : Int) - (need : Int) = ((s - need : Nat) : Int) := by omega
  obtain ⟨sn, hsn⟩ : ∃ sn, s - need = sn := ⟨_, rfl⟩
  obtain ⟨t, ht⟩ : ∃ t, base + o + 8 = t := ⟨_, rfl⟩
  have hton : need < s → on + 8 ≤ size ∧ sn ≤ 65536 := fun h => by omega
  have htM : takeM M base ⟨o, s, u⟩ need = wrb (if need < s then wrb M (base + on) (le 8 (sn + false.toNat)) else M) (base + o) (le 8 (need + true.toNat)) := by
    unfold takeM; dsimp only; rw [hsn, show base + o + need = base + on by omega]; rfl
  rw [hon] at e1
  rw [hsn] at e2
  rw [htM]
  unfold BlkS.val at CP ⊢
  dsimp only at *
  rw [ht] at H1 CP ⊢
  have hbB : Hid (∀ w' X, Holds e w' (pts h (hpObj m base size) :: pts bx (.cells #[.int .u64 t, .int .i64 s, .bool u] 53) :: X) → w'.cell? ⟨bx, 0, none⟩ = some (.int .u64 t) ∧ w'.cell? ⟨bx, 1, none⟩ = some (.int .i64 s) ∧ w'.cell? ⟨bx, 2, none⟩ = some (.bool u)) := Lib.hid fun w' X h' => ⟨h'.swap.cells 0, h'.swap.cells 1, h'.swap.cells 2⟩
  have HF := Lib.hid F
  clear htM hon hsn ht H
  subst hbx
  by_cases hlt : need < s
  · obtain ⟨ho1, ho2⟩ := hton hlt
    have hd : decide ((need : Int) < (s : Int)) = true := by simp; omega
    rw [if_pos hlt]
    clear hton
    go_enter Try.func50, Try.ntmps50
    go_wp2_with fail
    refine (CP.out _ _ H1).mono ?_
    rintro en w1 ⟨rfl, H2⟩
    obtain ⟨q0, q1, q2⟩ := hbB.out _ _ H2
    go_wp2_with fail
    refine (CW.out _ _ _ on sn false HF.out ho1 ho2 (H2.re 3 [0, 2, 1])).mono ?_
    rintro en w2 ⟨rfl, H3⟩
    have H3' : Holds e w2 (pts h (hpObj m base size) :: pts w.heap.size (.cells #[.int .u64 t, .int .i64 s, .bool u] 53) :: modH m (wrb M (base + on) (le 8 (sn + false.toNat))) :: R) := H3.re 3 [0, 2, 1]
    obtain ⟨r0, r1, r2⟩ := hbB.out _ _ H3'
    clear q0 q1 q2 H2
    go_wp2_with fail
    refine (CW.out _ _ _ o need true (HF.out.wrb _ _) (by omega) (by omega) H3).mono ?_
    rintro en w3 ⟨rfl, H4⟩
    have H4' : Holds e w3 (pts h (hpObj m base size) :: pts w.heap.size (.cells #[.int .u64 t, .int .i64 s, .bool u] 53) :: modH m (wrb (wrb M (base + on) (le 8 (sn + false.toNat))) (base + o) (le 8 (need + true.toNat))) :: R) := H4.re 3 [0, 2, 1]
    obtain ⟨q0, q1, q2⟩ := hbB.out _ _ H4'
    clear r0 r1 r2 H3 H3' H4
    have HH := Lib.hid H4'.d1
    clear H4'
    go_wp2_with fail
    go_ret2
    exact ⟨rfl, HH.out⟩
  · have hd : decide ((need : Int) < (s : Int)) = false := by simp; omega
    rw [if_neg hlt]
    clear hton
    go_enter Try.func50, Try.ntmps50
    go_wp2_with fail
    refine (CP.out _ _ H1).mono ?_
    rintro en w1 ⟨rfl, H2⟩
    obtain ⟨q0, q1, q2⟩ := hbB.out _ _ H2
    go_wp2_with fail
    refine (CW.out _ _ _ o need true HF.out (by omega) (by omega) (H2.re 3 [0, 2, 1])).mono ?_
    rintro en w3 ⟨rfl, H4⟩
    have H4' : Holds e w3 (pts h (hpObj m base size) :: pts w.heap.size (.cells #[.int .u64 t, .int .i64 s, .bool u] 53) :: modH m (wrb M (base + o) (le 8 (need + true.toNat))) :: R) := H4.re 3 [0, 2, 1]
    clear q0 q1 q2 H2
    obtain ⟨q0, q1, q2⟩ := hbB.out _ _ H4'
    have HH := Lib.hid H4'.d1
    clear H4' H4
    go_wp2_with fail
    go_ret2
    exact ⟨rfl, HH.out⟩
end
end Go.Proofs.Ytjbphdjheklhbaa
