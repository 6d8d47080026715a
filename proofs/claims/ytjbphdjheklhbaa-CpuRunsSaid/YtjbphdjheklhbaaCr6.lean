/-
  slices.Clone of bytes that are there.
-/
import Derived.Test.YtjbphdjheklhbaaCr5
namespace Go.Proofs.Ytjbphdjheklhbaa
open Go.RowKit

section
variable {e : Env} {w : World} {R : List HP}
set_option maxRecDepth 100000 in
theorem slClone (l : List UInt8) (hl : l.length ≤ 100000) (a : Addr) (c : Nat) (hr : ∀ w', Holds e w' R → RdB w' (.slice (some a) l.length c) l) (H : Holds e w R) :
    Calls Try.prog 60 #[.slice (some a) l.length c] w (RetEx e (fun v : Value => v) (fun v => bts v l :: R)) := by
  have hrd := hr _ (H.alloc (.cells #[] 5)).drop
  obtain ⟨n, hn⟩ : ∃ n, l.length = n := ⟨_, rfl⟩
  have HN := Lib.hid hn
  unfold RdB at hrd
  rw [hn] at hrd hl ⊢
  have HA : Holds e (w.alloc (.cells #[] 5)) (row (.slice (some ⟨w.heap.size, 0, none⟩) 0 0) 5 1 0 [] :: R) := row.made (H.alloc _) (Nat.le_refl _) (by decide) rfl rfl
  clear hr hn
  have hq : ∀ w, (binOp .eql 22 (.slice (some a) n c) (.slice none 0 0)).run Try.prog w = .ok (.bool false) w := fun w => by kernel_rfl
  go_enter Try.func60, Try.ntmps60
  go_wp2_with (at_builtin; refine wpList_append_sl rfl (.tmp 5) _ _ rfl 5 1 1 elem_u8 (.slice (some ⟨w.heap.size, 0, none⟩) 0 0) 0 [] rfl HA (.slice (some a) n c) n (u8v l) rfl hrd (u8v_one l) ?_ ?_ ?_)
  · unfold maxLen; omega
  · omega
  intro v5 w5 H5
  have HF : Hid (Holds e w5 (bts v5 l :: R)) := Lib.hid (by
    unfold bts
    rw [HN.out]
    simpa using H5)
  clear HA hrd H5
  go_wp2_with fail
  go_ret
  exact ⟨v5, rfl, HF.out⟩
end
end Go.Proofs.Ytjbphdjheklhbaa
