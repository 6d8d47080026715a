/-
  Package model: reading bytes.
-/
import Derived.Test.YtjbphdjheklhbaaMod
import Derived.Test.YtjbphdjheklhbaaRe
namespace Go.Proofs.Ytjbphdjheklhbaa
open Go.RowKit

def byteOf (M : List Pg) (b : Nat) : UInt8 := match fnd M (pgOf b) with | some x => x.bs.getD (offOf b) 0 | none => 0
def rdb (M : List Pg) (a n : Nat) : List UInt8 := (List.range n).map fun j => byteOf M (a + j)
theorem rdb_length (M : List Pg) (a n : Nat) : (rdb M a n).length = n := by simp [rdb]
theorem rdb_succ (M : List Pg) (a n : Nat) : rdb M a (n + 1) = rdb M a n ++ [byteOf M (a + n)] := by simp [rdb, List.range_succ]
/-- Bytes lie where they may be used. -/
def There (M : List Pg) (a n : Nat) : Prop := ∀ j, j < n → a + j < 18446744073709551616 ∧ (fnd M (pgOf (a + j))).isSome = true
theorem there_of_chk {M : List Pg} {a u n : Nat} (h : chkL M a u (List.range n) = 0) : There M a n := by
  intro j hj
  have h1 := chkL_zero.1 h j hj
  unfold chkAt at h1
  split at h1
  · cases h1
  split at h1
  · cases h1
  split at h1
  · cases h1
  · next h2 => exact ⟨by omega, by rw [h2]; rfl⟩

section
variable {e : Env} {w : World} {R : List HP} {m : Nat} {M : List Pg}
def outCell (ob n : Nat) : Obj := .cells #[.slice (some ⟨ob, 0, none⟩) n n] 22 (0, 0)
def outObj (us : List UInt8) : Obj := .cells (u8v us).toArray 5 (0, 0)
theorem u8A_get {l : List UInt8} {i : Nat} (h : i < l.length) : (u8v l).toArray[i]? = some (.int .u8 ((l.getD i 0).toNat : Int)) := by
  simp [u8v, List.getD, List.getElem?_eq_getElem h]
theorem u8_set (l : List UInt8) (i : Nat) (v : UInt8) : (u8v l).toArray.setIfInBounds i (.int .u8 (v.toNat : Int)) = (u8v (l.set i v)).toArray := by
  simp [u8v, List.map_set]
set_option maxRecDepth 100000 in
set_option maxHeartbeats 1000000 in
theorem rdClo {bo ob n gb k off : Nat} {us bs : List UInt8} (H : Holds e w (pts bo (outCell ob n) :: pts ob (outObj us) :: pts gb (.cells (u8v bs).toArray 5 (0, 0)) :: R)) (hk : k < n) (_hn : n ≤ 64) (hus : us.length = n) (ho : off < bs.length) (_hb : bs.length ≤ 4096) :
    Calls Try.prog 85 #[.int .i64 k, .pointer (some ⟨gb, off, none⟩), .pointer (some ⟨bo, 0, none⟩)] w
      (Ret e (.tuple #[]) (pts bo (outCell ob n) :: pts ob (outObj (us.set k (bs.getD off 0))) :: pts gb (.cells (u8v bs).toArray 5 (0, 0)) :: R)) := by
  have c0 : w.cell? ⟨bo, 0, none⟩ = some (.slice (some ⟨ob, 0, none⟩) n n) := H.cells 0
  have c1 : w.cell? ⟨gb, off, none⟩ = some (.int .u8 ((bs.getD off 0).toNat : Int)) := (H.p2.cells off).trans (u8A_get ho)
  have c2 : ∃ v, w.cell? ⟨ob, k, none⟩ = some v := ⟨_, (H.swap.cells k).trans (u8A_get (by omega))⟩
  obtain ⟨v2, c2⟩ := c2
  have f2 := H.swap.frozen
  have hv := (bs.getD off 0).toNat_lt
  have H1 := (H.swap.set k (.int .u8 ((bs.getD off 0).toNat : Int)))
  rw [u8_set] at H1
  generalize bs.getD off 0 = v at *
  have HH := Lib.hid H1.swap
  clear H H1
  go_enter Try.func85, Try.ntmps85
  go_wp2_with fail
  go_region
  go_end0
  exact ⟨rfl, HH.out.drew⟩

/-- A page in hand: what each reads of it. -/
def eachS (m mb : Nat) (q : Nat) (x : Pg) (w : World) : Prop :=
  w.cell? ⟨m, 0, none⟩ = some (.map (some mb)) ∧ (Instr.lookup 126 (.map (some mb)) (.int .i64 q) false).run Try.prog w = .ok (.pointer (some ⟨x.pb, 0, none⟩)) w ∧ w.cell? ⟨x.pb, 1, none⟩ = some (.slice (some ⟨x.gb, 0, none⟩) 4096 4096)
theorem eachS_of {mb q ix : Nat} {x : Pg} (hf : fnd M q = some x) (hix : M[ix]? = some x) (H : Holds e w (pts m (modObj mb) :: mapZ mb 68719476736 (look M) :: all pageH M :: R)) : eachS m mb q x w := by
  have hzv : ∀ w, (zeroValue 139).run Try.prog w = .ok (.pointer none) w := fun w => by kernel_rfl
  refine ⟨H.cells 0, ?_, (mod_at hix H).cells 1⟩
  have := mapZ_lookup (P := Try.prog) (t := 126) (kt := 3) (et := 139) H.swap (by kernel_rfl) (by kernel_rfl) (hzv w) false (q : Int)
  rw [look_nat, hf] at this
  exact this

set_option maxRecDepth 100000 in
set_option maxHeartbeats 4000000 in
theorem eachRead {bo ob n : Nat} (hn : n ≤ 64) (a : Nat) (hT : There M a n) (us : List UInt8) (hus : us.length = n)
    (H : Holds e w (modH m M :: pts bo (outCell ob n) :: pts ob (outObj us) :: R)) :
    Calls Try.prog 84 #[.pointer (some ⟨m, 0, none⟩), .int .u64 a, .int .i64 n, .func (.func 85) #[] #[.pointer (some ⟨bo, 0, none⟩)]] w
      (Ret e (.tuple #[]) (modH m M :: pts bo (outCell ob n) :: pts ob (outObj (rdb M a n)) :: R)) := by
  have CP := Lib.hid fun (b : Nat) (hb : b < 18446744073709551616) (w' : World) => vaPage (w := w') b hb
  have CO := Lib.hid fun (b : Nat) (hb : b < 18446744073709551616) (w' : World) => vaOffset (w := w') b hb
  go_enter Try.func84, Try.ntmps84
  go_wp2_with fail
  go_loopw [11] (fun i wr => ∃ (k : Nat) (ys : List UInt8), k ≤ n ∧ i = .int .i64 (k : Nat) ∧ ys.length = n ∧ Hid (ys.take k = rdb M a k) ∧ Holds e wr (modH m M :: pts bo (outCell ob n) :: pts ob (outObj ys) :: R)) (fun i _ => n - (Go.RowKit.intOf i).toNat)
  case atStart => exact ⟨0, us, by omega, rfl, hus, Lib.hid rfl, H⟩
  case round =>
    obtain ⟨k, ys, hk, rfl, hys, hz, HX⟩ := hrel
    by_cases hlt : k < n
    · obtain ⟨hb64, hsome⟩ := hT k hlt
      obtain ⟨x, hf⟩ := Option.isSome_iff_exists.1 hsome
      obtain ⟨b, hb⟩ : ∃ b, a + k = b := ⟨_, rfl⟩
      have HB : Hid (byteOf M (a + k) = x.bs.getD (offOf b) 0) := Lib.hid (by unfold byteOf; rw [hf, hb])
      rw [hb] at hb64 hf
      have hab : (a : Int) + (k : Int) = (b : Int) := by omega
      have hol := offOf_lt b
      obtain ⟨mb, hO, HY⟩ := mod_open HX
      obtain ⟨ix, hix, hxq⟩ := fnd_at hf
      have hxl := hO.len x (List.mem_of_getElem? hix)
      obtain ⟨q, hq⟩ : ∃ q, pgOf b = q := ⟨_, rfl⟩
      obtain ⟨o, ho⟩ : ∃ o, offOf b = o := ⟨_, rfl⟩
      have CPb : Hid (∀ w' X, Holds e w' X → Calls Try.prog 79 #[.int .u64 b] w' (Ret e (.int .i64 q) X)) := Lib.hid fun w' X h => retQ (hq ▸ CP.out b hb64 w') h
      have COb : Hid (∀ w' X, Holds e w' X → Calls Try.prog 95 #[.int .u64 b] w' (Ret e (.int .i64 o) X)) := Lib.hid fun w' X h => retQ (ho ▸ CO.out b hb64 w') h
      rw [ho] at hol HB
      rw [hq] at hf
      have HS : Hid (∀ w' X, Holds e w' (pts m (modObj mb) :: mapZ mb 68719476736 (look M) :: all pageH M :: X) → eachS m mb q x w') := Lib.hid fun w' X h => eachS_of hf hix h
      have HC : Hid (∀ w', Holds e w' (pts m (modObj mb) :: mapZ mb 68719476736 (look M) :: all pageH M :: pts bo (outCell ob n) :: pts ob (outObj ys) :: R) → Calls Try.prog 85 #[.int .i64 k, .pointer (some ⟨x.gb, o, none⟩), .pointer (some ⟨bo, 0, none⟩)] w'
          (Ret e (.tuple #[]) (pts m (modObj mb) :: mapZ mb 68719476736 (look M) :: all pageH M :: pts bo (outCell ob n) :: pts ob (outObj (ys.set k (x.bs.getD o 0))) :: R))) := Lib.hid fun w' h => by
        have h1 := mod_at (R := pts bo (outCell ob n) :: pts ob (outObj ys) :: R) hix h
        have h2 : Holds e w' (pts bo (outCell ob n) :: pts ob (outObj ys) :: pts x.gb (.cells (u8v x.bs).toArray 5 (0, 0)) :: pts x.pb (pgObj x) :: pts m (modObj mb) :: mapZ mb 68719476736 (look M) :: all pageH (M.eraseIdx ix) :: R) := by
          exact h1.re 7 [5, 6, 1, 0, 2, 3, 4]
        refine (rdClo h2 hlt hn hys (by omega) (by omega)).mono ?_
        rintro en w1 ⟨rfl, h4⟩
        have h5 : Holds e w1 (pts x.pb (pgObj x) :: pts x.gb (bsObj x) :: modX m mb M ix (pts bo (outCell ob n) :: pts ob (outObj (ys.set k (x.bs.getD o 0))) :: R)) := h4.re 7 [3, 2, 4, 5, 6, 0, 1]
        exact ⟨rfl, mod_back hix h5⟩
      have hoI : (o : Int) < 4096 := by omega
      have hoJ : (0 : Int) ≤ o := by omega
      have hd := HY.drew
      clear hb hq ho hf hsome
      go_wp2_with fail
      go_region_held3 (fun w' => w'.cell? ⟨m, 0, none⟩ = some (.map (some mb)) ∧ (Instr.lookup 126 (.map (some mb)) (.int .i64 q) false).run Try.prog w' = .ok (.pointer (some ⟨x.pb, 0, none⟩)) w' ∧ w'.cell? ⟨x.pb, 1, none⟩ = some (.slice (some ⟨x.gb, 0, none⟩) 4096 4096))
        (first | exact HS.out _ _ (by assumption))
        (first
          | (go_at_call 79; refine (CPb.out _ _ (by assumption)).mono ?_; rintro e w4 ⟨rfl, HN⟩)
          | (go_at_call 95; refine (COb.out _ _ (by assumption)).mono ?_; rintro e w4 ⟨rfl, HN⟩)
          | (go_at_call 85; refine (HC.out _ (by assumption)).mono ?_; rintro e w4 ⟨rfl, HN⟩))
      all_goals
        have HZ : Hid ((ys.set k (x.bs.getD o 0)).take (k + 1) = rdb M a (k + 1)) := Lib.hid (by
          rw [rdb_succ, HB.out, ← hz.out, List.take_add_one, List.take_set_of_le (by omega), List.getElem?_set_self (by omega)]
          rfl)
        have HM := mod_close hO HN
        clear HS HC CPb COb HN hd HY hz HB
        go_wp2_with fail
        go_roundw
        case rel => exact ⟨k + 1, _, by omega, by go_num, by simpa using hys, HZ, HM⟩
        case measure => simp [Go.RowKit.intOf]; omega
    · obtain rfl : k = n := by omega
      rw [List.take_of_length_le (by omega)] at hz
      go_wp2_with fail
      go_end0
      exact ⟨rfl, by rw [← hz.out]; exact HX⟩
end
end Go.Proofs.Ytjbphdjheklhbaa
