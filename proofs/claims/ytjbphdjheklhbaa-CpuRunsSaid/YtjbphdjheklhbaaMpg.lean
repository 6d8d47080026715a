/-
  Package model: Pages.
-/
import Derived.Test.YtjbphdjheklhbaaMnu
import Derived.Test.YtjbphdjheklhbaaCr6
import Derived.Deep.RegionHeld3
namespace Go.Proofs.Ytjbphdjheklhbaa
open Go.RowKit

/-- The pages as they are told: told in these values. -/
def toldP : List Pg → List Value → List PgV
  | x :: M, d :: ds => ⟨upA (4096 * x.pg), x.perm, d, x.bs⟩ :: toldP M ds
  | _, _ => []
theorem toldP_length : ∀ {M : List Pg} {ds : List Value}, ds.length = M.length → (toldP M ds).length = M.length
  | [], _, _ => by simp [toldP]
  | _ :: _, [], h => by simp at h
  | x :: M, d :: ds, h => by simp [toldP, toldP_length (M := M) (ds := ds) (by simpa using h)]
theorem toldP_snoc : ∀ {M : List Pg} {ds : List Value}, ds.length = M.length → ∀ (x : Pg) (d : Value), toldP (M ++ [x]) (ds ++ [d]) = toldP M ds ++ [⟨upA (4096 * x.pg), x.perm, d, x.bs⟩]
  | [], [], _, _, _ => rfl
  | [], _ :: _, h, _, _ => by simp at h
  | _ :: _, [], h, _, _ => by simp at h
  | y :: M, c :: ds, h, x, d => by
    have := toldP_snoc (M := M) (ds := ds) (by simpa using h) x d
    simp [toldP, this]
theorem toldP_key : ∀ {M : List Pg} {ds : List Value}, ds.length = M.length → (toldP M ds).map PgV.key = M.map fun x => (upA (4096 * x.pg), x.perm, x.bs)
  | [], _, _ => by simp [toldP]
  | _ :: _, [], h => by simp at h
  | x :: M, d :: ds, h => by
    have := toldP_key (M := M) (ds := ds) (by simpa using h)
    simp [toldP, this, PgV.key]
theorem fnd_mem {M : List Pg} (h : ModOk M) {k : Nat} {x : Pg} (hx : M[k]? = some x) : fnd M x.pg = some x := by
  have h1 : (fnd M x.pg).isSome = true := by
    unfold fnd
    rw [List.find?_isSome]
    exact ⟨x, List.mem_of_getElem? hx, by simp⟩
  obtain ⟨y, hy⟩ := Option.isSome_iff_exists.1 h1
  obtain ⟨i, hi, hq⟩ := fnd_at hy
  obtain ⟨a1, a2⟩ := List.getElem?_eq_some_iff.1 hi
  obtain ⟨b1, b2⟩ := List.getElem?_eq_some_iff.1 hx
  have hp := List.pairwise_iff_getElem.1 h.rise
  rcases Nat.lt_trichotomy i k with hl | hl | hl
  · have := hp i k a1 b1 hl; rw [a2, b2] at this; omega
  · subst hl; rw [hy, ← a2, ← b2]
  · have := hp k i b1 a1 hl; rw [a2, b2] at this; omega
def toldH (q : PgV) : HP := bts q.d q.bs
theorem elem_page : ElemOf Try.prog 100 137 3 40 := ElemOf.mk (z := .agg #[.int .u64 0, .int .i64 0, .slice none 0 0]) (by kernel_rfl) (by kernel_rfl) rfl (by decide)
section
variable {e : Env} {w : World} {R : List HP} {m : Nat} {M : List Pg}
theorem mod_len (h : ModOk M) : M.length ≤ 68719476736 := by
  have := len_le h.nums.1 h.nums.2.1
  simpa [pgNums] using this
set_option maxRecDepth 100000 in
set_option maxHeartbeats 2000000 in
theorem modPages (H : Holds e w (modH m M :: R)) : Calls Try.prog 43 #[.pointer (some ⟨m, 0, none⟩)] w
    (RetEx e (fun x : Value × List Value => x.1) (fun x => pur (x.2.length = M.length) :: row x.1 137 3 M.length ((toldP M x.2).flatMap PgV.cells) :: all toldH (toldP M x.2) :: modH m M :: R)) := by
  have CN := Lib.hid (modNumbers H)
  obtain ⟨mb, hO, _⟩ := mod_open H
  have hlen := mod_len hO
  have HO := Lib.hid hO
  obtain ⟨n, hn⟩ : ∃ n, M.length = n := ⟨_, rfl⟩
  rw [hn] at hlen CN ⊢
  have HN := Lib.hid hn
  clear H hO hn
  go_enter Try.func43, Try.ntmps43
  go_wp2_with fail
  refine CN.out.mono ?_
  rintro en w1 ⟨nv, rfl, H1⟩
  clear CN
  obtain ⟨na, nc, rfl⟩ := row_shape H1
  go_wp2_with fail
  go_loopw [3, 5, 6, 10] (fun o _ _ i wr => ∃ (k : Nat) (ds : List Value) (v : Value), v = o ∧ k ≤ n ∧ i = .int .i64 (k : Nat) ∧ Hid (ds.length = k) ∧ Holds e wr (row v 137 3 k ((toldP (M.take k) ds).flatMap PgV.cells) :: all toldH (toldP (M.take k) ds) :: row (.slice na n nc) 3 1 n (ints (pgNums M)) :: modH m M :: R)) (fun _ _ _ i _ => n - (Go.RowKit.intOf i).toNat)
  case atStart => exact ⟨0, [], _, rfl, by omega, rfl, Lib.hid rfl, row.nil _ 3 (Holds.allNil H1)⟩
  case round =>
    clear H1
    obtain ⟨k, ds, v, rfl, hk, rfl, hds, HX⟩ := hrel
    by_cases hlt : k < n
    · obtain ⟨x, hx⟩ : ∃ x, M[k]? = some x := ⟨_, List.getElem?_eq_getElem (by rw [HN.out]; exact hlt)⟩
      obtain ⟨mb, hO, HY0⟩ := mod_open (HX.re 4 [3, 0, 1, 2])
      have hxm := List.mem_of_getElem? hx
      have hxl := hO.lt x hxm
      have hbl := hO.len x hxm
      have hE := eachS_of (fnd_mem hO hx) hx HY0
      obtain ⟨e1, e2, e3⟩ := hE
      have HY := mod_at hx HY0
      have e4 : wr.cell? ⟨x.pb, 0, none⟩ = some (.int .i64 x.perm) := HY.cells 0
      obtain ⟨g, o, rfl, rr⟩ := (row.reads HX.p2).at (by omega)
      have e5 := rr k _ (ints_get (x := (x.pg : Int)) (by unfold pgNums; rw [List.getElem?_map, hx]; rfl))
      have CA : Hid (∀ w' X, Holds e w' X → Calls Try.prog 59 #[.int .i64 x.pg] w' (Ret e (.int .u64 (upA (4096 * x.pg))) X)) := Lib.hid fun w' X h' => retQ (vaAt x.pg hxl) h'
      have CC : Hid (∀ w' X, Holds e w' (pts x.pb (pgObj x) :: pts x.gb (bsObj x) :: X) → Calls Try.prog 60 #[.slice (some ⟨x.gb, 0, none⟩) 4096 4096] w'
          (RetEx e (fun p : Option Addr × Nat => .slice p.1 4096 p.2) (fun p => bts (.slice p.1 4096 p.2) x.bs :: pts x.pb (pgObj x) :: pts x.gb (bsObj x) :: X))) := Lib.hid fun w' X h' => by
        have hcl := slClone (R := pts x.pb (pgObj x) :: pts x.gb (bsObj x) :: X) x.bs (by omega) ⟨x.gb, 0, none⟩ 4096 (fun w'' g => ?_) h'
        · rw [hbl] at hcl
          refine hcl.mono ?_
          rintro en w'' ⟨cv, rfl, h2⟩
          obtain ⟨ca, cc, rfl⟩ := (bts.reads h2).shape
          rw [hbl] at h2 ⊢
          exact ⟨(ca, cc), rfl, h2⟩
        · refine ⟨by simp, .inr ⟨_, _, rfl, by omega, fun j u hj => ?_⟩⟩
          rw [Addr.add_at, Nat.zero_add, Holds.cells (c := (u8v x.bs).toArray) g.drop]
          simpa using hj
      have HK : Hid (∀ w' X, Holds e w' (pts x.pb (pgObj x) :: X) → w'.cell? ⟨x.pb, 0, none⟩ = some (.int .i64 x.perm) ∧ w'.cell? ⟨x.pb, 1, none⟩ = some (.slice (some ⟨x.gb, 0, none⟩) 4096 4096)) := Lib.hid fun w' X h' => ⟨h'.cells 0, h'.cells 1⟩
      obtain ⟨A0, hA0⟩ : ∃ A0, upA (4096 * x.pg) = A0 := ⟨_, rfl⟩
      rw [hA0] at CA
      have HEND : Hid (∀ (w' : World) (v' : Value) (p : Option Addr × Nat), Holds e w' (row v' 137 3 (k + 1) ((toldP (M.take k) ds).flatMap PgV.cells ++ [.int .u64 A0, .int .i64 x.perm, .slice p.1 4096 p.2]) :: bts (.slice p.1 4096 p.2) x.bs :: pts x.pb (pgObj x) :: pts x.gb (bsObj x) :: modX m mb M k (all toldH (toldP (M.take k) ds) :: row (.slice (some ⟨g, o, none⟩) n nc) 3 1 n (ints (pgNums M)) :: R)) →
          Hid ((ds ++ [Value.slice p.1 4096 p.2]).length = k + 1) ∧ Holds e w' (row v' 137 3 (k + 1) ((toldP (M.take (k + 1)) (ds ++ [Value.slice p.1 4096 p.2])).flatMap PgV.cells) :: all toldH (toldP (M.take (k + 1)) (ds ++ [Value.slice p.1 4096 p.2])) :: row (.slice (some ⟨g, o, none⟩) n nc) 3 1 n (ints (pgNums M)) :: modH m M :: R)) := Lib.hid fun w' v' p h' => by
        have hl : ds.length = (M.take k).length := by rw [hds.out, List.length_take, HN.out]; omega
        have e1 : M.take (k + 1) = M.take k ++ [x] := by rw [List.take_add_one, hx]; rfl
        refine ⟨Lib.hid (by rw [List.length_append, hds.out]; rfl), ?_⟩
        rw [e1, toldP_snoc hl, hA0, List.flatMap_append]
        have h1 : Holds e w' (pts x.pb (pgObj x) :: pts x.gb (bsObj x) :: modX m mb M k (toldH ⟨A0, x.perm, .slice p.1 4096 p.2, x.bs⟩ :: all toldH (toldP (M.take k) ds) :: row v' 137 3 (k + 1) ((toldP (M.take k) ds).flatMap PgV.cells ++ [.int .u64 A0, .int .i64 x.perm, .slice p.1 4096 p.2]) :: row (.slice (some ⟨g, o, none⟩) n nc) 3 1 n (ints (pgNums M)) :: R)) := h'.re 9 [2, 3, 4, 5, 6, 1, 7, 0, 8]
        have h2 := (mod_close hO (mod_back hx h1)).re 5 [1, 2, 3, 4, 0]
        exact h2.allSnoc.swap
      have f1 : k + 1 ≤ maxLen := by unfold maxLen; omega
      have f2 : (k + 1) * 40 ≤ 140737488355328 := by omega
      have kI : (k : Int) < (n : Int) := by omega
      have H2 : Holds e wr.drew (pts x.pb (pgObj x) :: pts x.gb (bsObj x) :: row v 137 3 k ((toldP (M.take k) ds).flatMap PgV.cells) :: modX m mb M k (all toldH (toldP (M.take k) ds) :: row (.slice (some ⟨g, o, none⟩) n nc) 3 1 n (ints (pgNums M)) :: R)) := (HY.re 6 [0, 1, 5, 2, 3, 4]).drew
      have hxn : (x.pg : Int) < 68719476736 := by omega
      clear HY HY0 HX rr hx hxm hbl hO hA0
      generalize modX m mb M k (all toldH (toldP (M.take k) ds) :: row (.slice (some ⟨g, o, none⟩) n nc) 3 1 n (ints (pgNums M)) :: R) = RR at *
      generalize (toldP (M.take k) ds).flatMap PgV.cells = cs at *
      go_wp2_with fail
      go_region_held3 (fun w' => w'.cell? ⟨x.pb, 0, none⟩ = some (.int .i64 x.perm) ∧ w'.cell? ⟨x.pb, 1, none⟩ = some (.slice (some ⟨x.gb, 0, none⟩) 4096 4096))
        (first
          | exact HK.out _ _ (by assumption)
          | exact HK.out _ _ (Holds.drop (by assumption))
          | exact HK.out _ _ (Holds.drop (Holds.drop (Holds.alloc (by assumption) _)))
          | exact HK.out _ _ (Holds.drop (Holds.drop (by assumption))))
        (first
          | (go_at_call 59; refine (CA.out _ _ (by assumption)).mono ?_; rintro e w4 ⟨rfl, HN4⟩)
          | (go_at_call 60; refine (CC.out _ _ (by assumption)).mono ?_; rintro e w5 ⟨⟨ca, cc⟩, rfl, HN5⟩)
          | (refine step_append_sl rfl (.tmp 20) (.tmp 33) _ rfl 137 3 40 elem_page v k cs (by go_simp) _ 1 [.int .u64 A0, .int .i64 x.perm, .slice ca 4096 cc] (by go_simp; rfl) (by simp [Value.oneCell']) f1 f2 (by first | exact Holds.drop (Holds.alloc (Holds.re 4 [3, 0, 1, 2] HN4) _) | exact Holds.drop (Holds.alloc (Holds.re 4 [3, 0, 1, 2] HN5) _)) (by exact reads_lits _ [.int .u64 A0, .int .i64 x.perm, .slice ca 4096 cc] _ 1 3 rfl) ?_; intro v6 w6 H6))
      all_goals
        obtain ⟨hd2, H7⟩ := HEND.out _ _ (ca, cc) H6
        have H8 := Lib.hid H7
        clear H6 H7 HEND CA CC HK H2
        go_wp2_with fail
        go_roundw
        case rel => exact ⟨k + 1, _, v6, rfl, by omega, by go_num, hd2, H8.out⟩
        case measure => simp [Go.RowKit.intOf]; omega
    · obtain rfl : n = k := by omega
      have kI : ¬ (n : Int) < (n : Int) := by omega
      have HF : Hid (Holds e wr (pur (ds.length = n) :: row v 137 3 n ((toldP M ds).flatMap PgV.cells) :: all toldH (toldP M ds) :: modH m M :: R)) := Lib.hid (by
        have e1 : M.take n = M := by rw [← HN.out, List.take_length]
        rw [e1] at HX
        exact Holds.mkPur hds.out HX.d2)
      clear HX
      go_wp2_with fail
      go_ret
      exact ⟨(v, ds), rfl, HF.out⟩
end
end Go.Proofs.Ytjbphdjheklhbaa
