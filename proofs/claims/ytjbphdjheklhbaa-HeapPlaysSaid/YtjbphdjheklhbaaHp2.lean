/-
  Package heap: may, place; write.
-/
import Derived.Test.YtjbphdjheklhbaaHp
namespace Go.Proofs.Ytjbphdjheklhbaa
open Go.RowKit

def mayH (base : Nat) (size : Int) : Bool := decide (base % 16 = 0) && decide (16 ≤ size) && decide (size ≤ 65536) && decide (size % 16 = 0) && decide ((base : Int) ≤ 18446744073709551615 - size)
def hpObj (m base size : Nat) : Obj := .cells #[memV m, .int .u64 base, .int .i64 size] 108 (0, 0)
section
variable {e : Env} {w : World} {R : List HP} {m : Nat} {M : List Pg}
set_option maxRecDepth 100000 in
theorem hpMay {base : Nat} (hb : base < 18446744073709551616) (size : Int) (h0 : -9223372036854775808 ≤ size) (h1 : size ≤ 9223372036854775807) : Calls Try.prog 45 #[memV m, .int .u64 base, .int .i64 size] w (Quiet w (.bool (mayH base size))) := by
  have hq : ∀ w, (binOp .neq 36 (memV m) .nilIface).run Try.prog w = .ok (.bool true) w := fun w => by kernel_rfl
  unfold memV at *
  go_enter Try.func45, Try.ntmps45
  go_wp2_with fail
  all_goals go_ret
  all_goals
    refine ⟨congrArg (fun b => Ending.returned (Value.bool b)) (?_ : _ = mayH base size), 0, rfl⟩
    unfold mayH
    rw [Bool.eq_iff_iff]
    simp only [Bool.and_eq_true, decide_eq_true_eq, Bool.false_eq_true, false_iff]
    try simp only [beq_iff_eq] at *
    try omega
set_option maxRecDepth 100000 in
theorem hpMayNil {base : Nat} (size : Int) : Calls Try.prog 45 #[.nilIface, .int .u64 base, .int .i64 size] w (Quiet w (.bool false)) := by
  have hq : ∀ w, (binOp .neq 36 .nilIface .nilIface).run Try.prog w = .ok (.bool false) w := fun w => by kernel_rfl
  go_enter Try.func45, Try.ntmps45
  go_wp2_with fail
  all_goals go_ret
  all_goals exact ⟨rfl, 0, rfl⟩
set_option maxRecDepth 100000 in
set_option maxHeartbeats 1000000 in
theorem hpWrite {h base size : Nat} (at' sz : Nat) (hb : base + at' < 18446744073709551616) (hat : at' ≤ 65535) (hsz : sz ≤ 65536) (u : Bool) (H : Holds e w (pts h (hpObj m base size) :: modH m M :: R)) :
    Calls Try.prog 47 #[.pointer (some ⟨h, 0, none⟩), .int .i64 at', .int .i64 sz, .bool u] w
      (Ret e (.int .i64 (chk M (base + at') 8 2)) (pts h (hpObj m base size) :: modH m (stoP M (base + at') (le 8 (sz + u.toNat))) :: R)) := by
  have hP : Hid (∀ w' blk X (n : Nat), Holds e w' (pts blk (.cells #[.int .u64 n] 28 (0, 0)) :: X) → n ≤ 65537 → Calls Try.prog 54 #[.int .i64 8, .slice (some ⟨blk, 0, none⟩) 1 1] w' (RetEx e (fun v : Value => v) (fun v => bts v (le 8 n) :: X))) := Lib.hid fun w' blk X n h' hn => by
    have := numPut_any h' 8 (by omega) (by omega) [n] (by simp) (.slice (some ⟨blk, 0, none⟩) 1 1) (fun w' h'' => ⟨rfl, .inr ⟨_, _, rfl, Nat.le_refl _, fun j u hj => by rw [Addr.add_at, Nat.zero_add, h''.cells]; simpa [u64v] using hj⟩⟩)
    exact (this.mono fun en w'' ⟨v, h1, h2⟩ => ⟨v, h1, by simpa using h2.d1⟩)
  have hme : ∀ (w : World), (method 303 110 (.agg #[.pointer (some ⟨m, 0, none⟩)]) "Store").run Try.prog w = .ok (132, .agg #[.pointer (some ⟨m, 0, none⟩)]) w := fun w => by kernel_rfl
  have HS : Hid (∀ w' v X, Holds e w' (bts v (le 8 (sz + u.toNat)) :: pts h (hpObj m base size) :: modH m M :: X) → Calls Try.prog 132 #[.agg #[.pointer (some ⟨m, 0, none⟩)], .int .u64 ((base + at' : Nat) : Int), v] w' (Ret e (.int .i64 (chk M (base + at') 8 2)) (pts h (hpObj m base size) :: modH m (stoP M (base + at') (le 8 (sz + u.toNat))) :: X))) := Lib.hid fun w' v X h' => by
    have := flatStore (m := m) (M := M) (a := base + at') (by omega) (d := v) (ds := le 8 (sz + u.toNat)) (R := bts v (le 8 (sz + u.toNat)) :: pts h (hpObj m base size) :: X) (fun w'' g => bts.reads g) (by rw [le_length]; omega) (h'.re 3 [2, 0, 1])
    rw [le_length] at this
    exact retC this fun w'' g => g.re 3 [2, 0]
  have HK : Hid (∀ w' X, Holds e w' (pts h (hpObj m base size) :: X) → w'.cell? ⟨h, 0, none⟩ = some (memV m) ∧ w'.cell? ⟨h, 1, none⟩ = some (.int .u64 base)) := Lib.hid fun w' X h' => ⟨h'.cells 0, h'.cells 1⟩
  have hd := H.drew
  have e1 : (base : Int) + (at' : Int) = ((base + at' : Nat) : Int) := by omega
  obtain ⟨ba, hba⟩ : ∃ ba, base + at' = ba := ⟨_, rfl⟩
  have hba64 : ba < 18446744073709551616 := by omega
  rw [hba] at HS e1
  have ew1 : IntKind.u64.wrap (at' : Int) = at' := by rw [IntKind.wrap_u64]; omega
  have ew3 : IntKind.u64.wrap (ba : Int) = ba := by rw [IntKind.wrap_u64]; omega
  have ew2 : IntKind.u64.wrap ((base : Int) + (at' : Int)) = ba := by rw [IntKind.wrap_u64]; omega
  have HE : Hid (∃ E M', chk M (base + at') 8 2 = E ∧ stoP M (base + at') (le 8 (sz + u.toNat)) = M' ∧ chk M ba 8 2 = E ∧ stoP M ba (le 8 (sz + u.toNat)) = M') := Lib.hid ⟨_, _, rfl, rfl, by rw [hba], by rw [hba]⟩
  obtain ⟨E, M', h1, h2, h3, h4⟩ := HE.out
  rw [h3, h4] at HS
  have HQ := Lib.hid (And.intro h1 h2)
  clear h1 h2 h3 h4 HE
  unfold memV at HK
  clear hba
  obtain ⟨sv, hsv⟩ : ∃ sv, sz + u.toNat = sv := ⟨_, rfl⟩
  have hsv2 : sv ≤ 65537 := by have : u.toNat ≤ 1 := Bool.toNat_le u; omega
  rw [hsv] at HS HQ ⊢
  cases u
  · simp only [Bool.toNat_false, Nat.add_zero] at hsv
    subst hsv
    go_enter Try.func47, Try.ntmps47
    go_wp2_with fail
    go_region_held3 (fun w' => w'.cell? ⟨h, 0, none⟩ = some (.iface 110 (.agg #[.pointer (some ⟨m, 0, none⟩)])) ∧ w'.cell? ⟨h, 1, none⟩ = some (.int .u64 base))
      (first | exact HK.out _ _ (by assumption) | exact HK.out _ _ (Holds.drop (Holds.alloc (by assumption) _)) | exact HK.out _ _ (Holds.drop (by assumption)) | exact HK.out _ _ (Holds.drop (Holds.drew (Holds.alloc H _))))
      (first
        | (go_at_call 54; refine (hP.out _ _ _ _ (by first | exact Holds.alloc (by assumption) _ | exact Holds.drew (Holds.alloc H _)) (by omega)).mono ?_; rintro e w4 ⟨v, rfl, HN⟩)
        | (go_at_call 132; refine (HS.out _ _ _ (by assumption)).mono ?_; rintro e w4 ⟨rfl, HN⟩))
    clear HK HS hP hd
    go_wp2_with fail
    go_ret
    exact ⟨by rw [HQ.out.1]; rfl, by rw [HQ.out.2]; exact HN⟩
  · simp only [Bool.toNat_true] at hsv
    have e2 : (sz : Int) + 1 = (sv : Int) := by omega
    clear hsv
    go_enter Try.func47, Try.ntmps47
    go_wp2_with fail
    go_region_held3 (fun w' => w'.cell? ⟨h, 0, none⟩ = some (.iface 110 (.agg #[.pointer (some ⟨m, 0, none⟩)])) ∧ w'.cell? ⟨h, 1, none⟩ = some (.int .u64 base))
      (first | exact HK.out _ _ (by assumption) | exact HK.out _ _ (Holds.drop (Holds.alloc (by assumption) _)) | exact HK.out _ _ (Holds.drop (by assumption)) | exact HK.out _ _ (Holds.drop (Holds.drew (Holds.alloc H _))))
      (first
        | (go_at_call 54; refine (hP.out _ _ _ _ (by first | exact Holds.alloc (by assumption) _ | exact Holds.drew (Holds.alloc H _)) (by omega)).mono ?_; rintro e w4 ⟨v, rfl, HN⟩)
        | (go_at_call 132; refine (HS.out _ _ _ (by assumption)).mono ?_; rintro e w4 ⟨rfl, HN⟩))
    clear HK HS hP hd
    go_wp2_with fail
    go_ret
    exact ⟨by rw [HQ.out.1]; rfl, by rw [HQ.out.2]; exact HN⟩
end
end Go.Proofs.Ytjbphdjheklhbaa
