/-
  Package model: at, first, wants; stored, read.
-/
import Derived.Test.YtjbphdjheklhbaaMod3
namespace Go.Proofs.Ytjbphdjheklhbaa
open Go.RowKit

def firstE : List Int → Int
  | [] => 0
  | x :: l => if x = 0 then firstE l else x
theorem firstE_stop {l : List Int} {k : Nat} (hk : k < l.length) (h0 : ∀ j, j < k → l.getD j 0 = 0) (h : l.getD k 0 ≠ 0) : firstE l = l.getD k 0 := by
  induction l generalizing k with
  | nil => simp at hk
  | cons x l ih =>
    cases k with
    | zero => simp at h ⊢; unfold firstE; rw [if_neg h]
    | succ k =>
      have hx : x = 0 := by simpa using h0 0 (by omega)
      unfold firstE
      rw [if_pos hx]
      simp only [List.getD_cons_succ] at h ⊢
      exact ih (by simpa using hk) (fun j hj => by simpa using h0 (j + 1) (by omega)) h
theorem firstE_zero {l : List Int} (h0 : ∀ j, j < l.length → l.getD j 0 = 0) : firstE l = 0 := by
  induction l with
  | nil => rfl
  | cons x l ih =>
    have hx : x = 0 := by simpa using h0 0 (by simp)
    unfold firstE
    rw [if_pos hx]
    exact ih fun j hj => by simpa using h0 (j + 1) (by simpa using hj)
/-- Why an address is no page's. -/
def atE (a : Nat) : Nat := if canon a = false then 8 else if offOf a ≠ 0 then 1 else 0

section
variable {w : World}
theorem modFirst (es : List Int) (hl : es.length ≤ 100) (v : Value) (hr : Reads w v 1 es.length (ints es)) : Calls Try.prog 80 #[v] w (Quiet w (.int .i64 (firstE es))) := by
  obtain ⟨ad, c, rfl⟩ := hr.shape
  go_enter Try.func80, Try.ntmps80
  go_wp2_with fail
  go_loopw [7] (fun i wr => ∃ k : Nat, k ≤ es.length ∧ i = .int .i64 (k : Nat) ∧ Hid (∀ j, j < k → es.getD j 0 = 0) ∧ ∃ m, wr = w.drewN m) (fun i _ => es.length - (Go.RowKit.intOf i).toNat)
  case atStart => exact ⟨0, by omega, rfl, Lib.hid (fun j hj => by omega), 0, rfl⟩
  case round =>
    obtain ⟨k, hk, rfl, hz, m, rfl⟩ := hrel
    by_cases hlt : k < es.length
    · obtain ⟨g, o, rfl, h1⟩ := hr.at (by omega)
      have c1 := h1 k _ (ints_get (get_getD (d := 0) hlt))
      have HX : Hid (∀ j, j < k → es.getD j 0 = 0) := hz
      by_cases hx : es.getD k 0 = 0
      · have HZ : Hid (∀ j, j < k + 1 → es.getD j 0 = 0) := Lib.hid fun j hj => by
          rcases Nat.lt_succ_iff_lt_or_eq.1 hj with hj | rfl
          · exact hz.out j hj
          · exact hx
        rw [hx] at c1
        clear h1 hx hz HX
        go_wp2_with fail
        go_roundw
        case rel => exact ⟨k + 1, by omega, by go_num, HZ, _, rfl⟩
        case measure => simp [Go.RowKit.intOf]; omega
      · have HF : Hid (firstE es = es.getD k 0) := Lib.hid (firstE_stop hlt hz.out hx)
        generalize es.getD k 0 = x at *
        have hxb : (x != 0) = true := by simpa using hx
        clear h1 hz HX
        go_wp2_with fail
        go_ret
        exact ⟨by rw [HF.out]; rfl, _, rfl⟩
    · obtain rfl : k = es.length := by omega
      have HF : Hid (firstE es = 0) := Lib.hid (firstE_zero hz.out)
      clear hz
      go_wp2_with fail
      go_ret
      exact ⟨by rw [HF.out]; rfl, _, rfl⟩
theorem modWants (b : Bool) (x : Int) : Calls Try.prog 66 #[.bool b, .int .i64 x] w (Quiet w (.int .i64 (if b then 0 else x))) := by
  cases b
  all_goals
    go_enter Try.func66, Try.ntmps66
    go_wp2_with fail
    go_ret
    exact ⟨rfl, 0, rfl⟩
theorem modAt (a : Nat) (ha : a < 18446744073709551616) : Calls Try.prog 81 #[.int .u64 a] w (Quiet w (.int .i64 (atE a))) := by
  have hc := fun w => vaCanon (w := w) a ha
  have ho := fun w => vaOffset (w := w) a ha
  have hol := offOf_lt a
  by_cases h : canon a = true
  · rw [h] at hc
    by_cases h0 : offOf a = 0
    · have HE : Hid (atE a = 0) := Lib.hid (by unfold atE; rw [if_neg (by rw [h]; decide), if_neg (by omega)])
      rw [h0] at ho
      clear h h0 hol
      go_enter Try.func81, Try.ntmps81
      go_wp2_with fail
      refine (hc _).mono ?_
      rintro e w1 ⟨rfl, n1, rfl⟩
      go_wp2_with fail
      refine (ho _).mono ?_
      rintro e w1 ⟨rfl, n2, rfl⟩
      go_wp2_with fail
      go_ret
      exact ⟨by rw [HE.out]; rfl, _, rfl⟩
    · have HE : Hid (atE a = 1) := Lib.hid (by unfold atE; rw [if_neg (by rw [h]; decide), if_pos (by omega)])
      generalize offOf a = o at *
      have hne : ((o : Int) != 0) = true := by simpa using h0
      clear h h0
      go_enter Try.func81, Try.ntmps81
      go_wp2_with fail
      refine (hc _).mono ?_
      rintro e w1 ⟨rfl, n1, rfl⟩
      go_wp2_with fail
      refine (ho _).mono ?_
      rintro e w1 ⟨rfl, n2, rfl⟩
      go_wp2_with fail
      go_ret
      exact ⟨by rw [HE.out]; rfl, _, rfl⟩
  · have h' : canon a = false := by simpa using h
    rw [h'] at hc
    have HE : Hid (atE a = 8) := Lib.hid (by unfold atE; rw [if_pos h'])
    clear h h' ho hol
    go_enter Try.func81, Try.ntmps81
    go_wp2_with fail
    refine (hc _).mono ?_
    rintro e w1 ⟨rfl, n1, rfl⟩
    go_wp2_with fail
    go_ret
    exact ⟨by rw [HE.out]; rfl, _, rfl⟩
end

def opVal (kind perm n : Int) (a : Nat) (d : Value) : Value := .agg #[.int .i64 kind, .int .i64 perm, .int .i64 n, .int .u64 a, d]
section
variable {e : Env} {w : World} {R : List HP} {m : Nat} {M : List Pg}
set_option maxRecDepth 100000 in
set_option maxHeartbeats 1000000 in
theorem modStored {kind perm n : Int} {a : Nat} (ha : a < 18446744073709551616) {ds : List UInt8} {d : Value} (hr : ∀ w', Holds e w' R → RdB w' d ds) (hl : ds.length ≤ 4611686018427387904) (H : Holds e w (modH m M :: R)) :
    Calls Try.prog 65 #[.pointer (some ⟨m, 0, none⟩), opVal kind perm n a d] w
      (Ret e (.int .i64 (chk M a ds.length 2)) (modH m (if chk M a ds.length 2 = 0 then wrb M a ds else M) :: R)) := by
  obtain ⟨ad, c, rfl⟩ := (hr w H.drop).shape
  have hmf : ∀ (fn : Fn) (first cap : Array Value) (w : World), (Instr.makeFunc fn first cap).run Try.prog w = .ok (.func fn first cap) w := fun _ _ _ _ => rfl
  have H1 := H.alloc (opObj kind perm n a (.slice ad ds.length c))
  generalize hbx : w.heap.size = bx at H1
  have CM : Hid (∀ w', Holds e w' (pts bx (opObj kind perm n a (.slice ad ds.length c)) :: modH m M :: R) → Calls Try.prog 83 #[.pointer (some ⟨m, 0, none⟩), .int .u64 a, .int .i64 ds.length, .int .i64 2] w' (Ret e (.int .i64 (chk M a ds.length 2)) (pts bx (opObj kind perm n a (.slice ad ds.length c)) :: modH m M :: R))) := Lib.hid fun w' h =>
    retC (modMay h.swap a ha ds.length (by omega) (by omega) 2 (by omega)) fun w'' h => h.swap
  have hce : ∀ w' (T : List HP), Holds e w' (pts bx (opObj kind perm n a (.slice ad ds.length c)) :: T) → w'.cell? ⟨bx, 3, none⟩ = some (.int .u64 a) ∧ w'.cell? ⟨bx, 4, none⟩ = some (.slice ad ds.length c) := fun w' T h => ⟨h.cells 3, h.cells 4⟩
  have HCE := Lib.hid hce
  obtain ⟨q3, q4⟩ := hce _ _ H1
  have HC0 : Hid (chk M a ds.length 2 = 0 → There M a ds.length ∧ ds.length ≤ 64) := Lib.hid fun h => by
    unfold chk at h
    split at h
    · cases h
    · rw [Int.toNat_natCast] at h
      exact ⟨there_of_chk h, by omega⟩
  have HR := Lib.hid hr
  clear hr hce H
  generalize chk M a ds.length 2 = E at *
  unfold opVal
  unfold opObj at H1 q3 q4
  by_cases hE : E = 0
  · subst hE
    obtain ⟨hT, hl64⟩ := HC0.out rfl
    rw [if_pos rfl]
    clear HC0
    go_enter Try.func65, Try.ntmps65
    go_wp2_with fail
    refine (CM.out _ (by rw [← hbx] at H1 ⊢; exact H1)).mono ?_
    rintro en w1 ⟨rfl, H2⟩
    obtain ⟨r3, r4⟩ := HCE.out _ _ H2
    clear q3 q4
    subst hbx
    go_wp2_with fail
    refine (eachStore (fun w' h => HR.out w' h) hl64 hT H2.swap).mono ?_
    rintro en w2 ⟨rfl, H3⟩
    have H4 := H3.d1
    go_wp2_with fail
    go_ret
    exact ⟨rfl, H4⟩
  · rw [if_neg hE]
    have hEb : ((E : Int) == 0) = false := by simp; omega
    clear HC0 hE
    go_enter Try.func65, Try.ntmps65
    go_wp2_with fail
    refine (CM.out _ (by rw [← hbx] at H1 ⊢; exact H1)).mono ?_
    rintro en w1 ⟨rfl, H2⟩
    have H3 := H2.drop
    go_wp2_with fail
    go_ret
    exact ⟨rfl, H3⟩
end
end Go.Proofs.Ytjbphdjheklhbaa
