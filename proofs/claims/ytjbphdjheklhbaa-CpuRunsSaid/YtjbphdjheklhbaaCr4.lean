/-
  Layer 38: are pages the same?
-/
import Derived.Test.YtjbphdjheklhbaaCr3
import Derived.Test.YtjbphdjheklhbaaCb1
namespace Go.Proofs.Ytjbphdjheklhbaa
open Go.RowKit

/-- A page as it is told. -/
structure PgV where
  at' : Nat
  perm : Nat
  d : Value
  bs : List UInt8
def PgV.cells (q : PgV) : List Value := [.int .u64 q.at', .int .i64 q.perm, q.d]
def PgV.key (q : PgV) : Nat × Nat × List UInt8 := (q.at', q.perm, q.bs)
theorem pcells_at {l : List PgV} {k : Nat} {b : PgV} (h : l[k]? = some b) (j : Nat) (hj : j < 3) : (l.flatMap PgV.cells)[k * 3 + j]? = b.cells[j]? := by
  induction l generalizing k with
  | nil => simp at h
  | cons x l ih =>
    cases k with
    | zero =>
      simp at h
      subst h
      rw [Nat.zero_mul, Nat.zero_add, List.flatMap_cons, List.getElem?_append_left (by simp [PgV.cells]; omega)]
    | succ k =>
      simp at h
      rw [List.flatMap_cons, List.getElem?_append_right (by simp [PgV.cells]; omega), ← ih h]
      congr 1
      simp [PgV.cells]
      omega
section
variable {e : Env} {w : World} {R : List HP}
set_option maxRecDepth 100000 in
set_option maxHeartbeats 2000000 in
theorem ref38Same {L1 L2 : List PgV} (hk : L1.map PgV.key = L2.map PgV.key) (v1 v2 : Value) (hl : L1.length ≤ 4611686018427387904) (hr1 : ∀ w', Holds e w' R → Reads w' v1 3 L1.length (L1.flatMap PgV.cells)) (hr2 : ∀ w', Holds e w' R → Reads w' v2 3 L2.length (L2.flatMap PgV.cells))
    (hd1 : ∀ q ∈ L1, ∀ w', Holds e w' R → RdB w' q.d q.bs) (hd2 : ∀ q ∈ L2, ∀ w', Holds e w' R → RdB w' q.d q.bs) (H : Holds e w R) : Calls Try.prog 42 #[v1, v2] w (Ret e (.bool true) R) := by
  have hlen : L2.length = L1.length := by have := congrArg List.length hk; simpa using this.symm
  obtain ⟨a1, c1, rfl⟩ := (hr1 w H).shape
  obtain ⟨a2, c2, rfl⟩ := (hr2 w H).shape
  obtain ⟨n, hn⟩ : ∃ n, L1.length = n := ⟨_, rfl⟩
  rw [hlen] at hr2 ⊢
  rw [hn] at hr1 hr2 hl ⊢
  have HN := Lib.hid hn
  have HK := Lib.hid hk
  have HR1 := Lib.hid hr1
  have HR2 := Lib.hid hr2
  have HD1 := Lib.hid hd1
  have HD2 := Lib.hid hd2
  clear hk hr1 hr2 hd1 hd2 hlen hn
  go_enter Try.func42, Try.ntmps42
  go_wp2_with fail
  go_loopw [5] (fun i wr => ∃ k : Nat, k ≤ n ∧ i = .int .i64 (k : Nat) ∧ Holds e wr R) (fun i _ => n - (Go.RowKit.intOf i).toNat)
  case atStart => exact ⟨0, by omega, rfl, H⟩
  case round =>
    clear H
    obtain ⟨k, hk, rfl, HX⟩ := hrel
    by_cases hlt : k < n
    · obtain ⟨x, hx⟩ : ∃ x, L1[k]? = some x := ⟨_, List.getElem?_eq_getElem (by rw [HN.out]; exact hlt)⟩
      obtain ⟨y, hy, hxy⟩ : ∃ y, L2[k]? = some y ∧ x.key = y.key := by
        have h1 := congrArg (fun l => l[k]?) HK.out
        simp only [List.getElem?_map, hx, Option.map_some] at h1
        cases h2 : L2[k]? with
        | none => rw [h2] at h1; cases h1
        | some y => rw [h2] at h1; exact ⟨y, rfl, Option.some.inj h1⟩
      obtain ⟨g1, o1, e1, _⟩ := (HR1.out _ HX).at (by omega)
      obtain ⟨g2, o2, e2, _⟩ := (HR2.out _ HX).at (by omega)
      subst e1 e2
      have HC : Hid (∀ w', Holds e w' R → (w'.cell? ⟨g1, o1 + k * 3, none⟩ = some (.int .u64 x.at') ∧ w'.cell? ⟨g1, o1 + k * 3 + 1, none⟩ = some (.int .i64 x.perm) ∧ w'.cell? ⟨g1, o1 + k * 3 + 2, none⟩ = some x.d) ∧ (w'.cell? ⟨g2, o2 + k * 3, none⟩ = some (.int .u64 y.at') ∧ w'.cell? ⟨g2, o2 + k * 3 + 1, none⟩ = some (.int .i64 y.perm) ∧ w'.cell? ⟨g2, o2 + k * 3 + 2, none⟩ = some y.d)) := Lib.hid fun w' h' => by
        obtain ⟨g3, o3, hg3, rr⟩ := (HR1.out w' h').at (by omega)
        cases hg3
        obtain ⟨g4, o4, hg4, ss⟩ := (HR2.out w' h').at (by omega)
        cases hg4
        exact ⟨⟨rr _ _ (pcells_at hx 0 (by omega)), by rw [Nat.add_assoc]; exact rr _ _ (pcells_at hx 1 (by omega)), by rw [Nat.add_assoc]; exact rr _ _ (pcells_at hx 2 (by omega))⟩, ⟨ss _ _ (pcells_at hy 0 (by omega)), by rw [Nat.add_assoc]; exact ss _ _ (pcells_at hy 1 (by omega)), by rw [Nat.add_assoc]; exact ss _ _ (pcells_at hy 2 (by omega))⟩⟩
      have hdx := HD1.out x (List.mem_of_getElem? hx)
      have hdy := HD2.out y (List.mem_of_getElem? hy)
      obtain ⟨ax, cx, ex⟩ := (hdx _ HX).shape
      obtain ⟨ay, cy, ey⟩ := (hdy _ HX).shape
      obtain ⟨xa, xp, xd, xs⟩ := x
      obtain ⟨ya, yp, yd, ys⟩ := y
      injection hxy with q1 q2
      injection q2 with q2 q3
      dsimp only at *
      subst q1 q2 q3 ex ey
      obtain ⟨I, Wf, hI, hW, hWs⟩ := worlds_of HX
      have r1 := fun i => (HC.out _ (hW i)).1.1
      have r2 := fun i => (HC.out _ (hW i)).1.2.1
      have r3 := fun i => (HC.out _ (hW i)).1.2.2
      have s1 := fun i => (HC.out _ (hW i)).2.1
      have s2 := fun i => (HC.out _ (hW i)).2.2.1
      have s3 := fun i => (HC.out _ (hW i)).2.2.2
      have x1 := fun i => convB (hdx _ (hW i))
      have x2 := fun i => convB (hdy _ (hW i))
      obtain ⟨lx, hlx⟩ : ∃ lx, xs.length = lx := ⟨_, rfl⟩
      rw [hlx] at r3 s3 x1 x2
      have kI : (k : Int) < (n : Int) := by omega
      clear hx hy hdx hdy HC hlx
      go_wp2_with fail
      refine wp_region_holds hWs HX (by kernel_rfl) (by kernel_rfl) ?_
      try simp only [List.append_eq, List.cons_append, List.nil_append]
      (repeat (go_big_quiet_step (fail))); refine wpQuiet_nil ?_; intro _ hw'; obtain ⟨nq, hw''⟩ := hw'; subst hw''
      have H8 := Lib.hid (hW nq)
      clear r1 r2 r3 s1 s2 s3 x1 x2 hW hWs HX
      go_wp2_with fail
      go_roundw
      case rel => exact ⟨k + 1, by omega, by go_num, H8.out⟩
      case measure => simp [Go.RowKit.intOf]; omega
    · obtain rfl : n = k := by omega
      have kI : ¬ (n : Int) < (n : Int) := by omega
      go_wp2_with fail
      go_ret
      exact ⟨rfl, HX⟩
end
end Go.Proofs.Ytjbphdjheklhbaa
