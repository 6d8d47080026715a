/-
  Package model: storing bytes.
-/
import Derived.Test.YtjbphdjheklhbaaMod2
namespace Go.Proofs.Ytjbphdjheklhbaa
open Go.RowKit

def Pg.put (x : Pg) (o : Nat) (v : UInt8) : Pg := { x with bs := x.bs.set o v }
def wrAt (M : List Pg) (b : Nat) (v : UInt8) : List Pg := M.map fun x => if x.pg = pgOf b then x.put (offOf b) v else x
def wrb (M : List Pg) (a : Nat) (l : List UInt8) : List Pg := l.zipIdx.foldl (fun M p => wrAt M (a + p.2) p.1) M
theorem wrb_snoc (M : List Pg) (a : Nat) (l : List UInt8) (v : UInt8) : wrb M a (l ++ [v]) = wrAt (wrb M a l) (a + l.length) v := by
  unfold wrb
  rw [List.zipIdx_append, List.foldl_append]
  simp
theorem put_pg (x : Pg) (o : Nat) (v : UInt8) : (x.put o v).pg = x.pg := rfl
theorem fnd_wrAt (M : List Pg) (b : Nat) (v : UInt8) (q : Nat) : fnd (wrAt M b v) q = (fnd M q).map fun x => if x.pg = pgOf b then x.put (offOf b) v else x := by
  unfold fnd wrAt
  rw [List.find?_map]
  congr 1
  congr 1
  funext x
  simp only [Function.comp]
  split <;> rfl
theorem look_wrAt (M : List Pg) (b : Nat) (v : UInt8) : look (wrAt M b v) = look M := by
  funext k
  unfold look
  rw [fnd_wrAt]
  split
  · rw [Option.map_map]
    congr 1
    funext x
    simp only [Function.comp]
    split <;> rfl
  · rfl
theorem ModOk.wrAt {M : List Pg} (h : ModOk M) (b : Nat) (v : UInt8) : ModOk (wrAt M b v) := by
  unfold Go.Proofs.Ytjbphdjheklhbaa.wrAt
  refine ⟨?_, ?_, ?_, ?_⟩
  · rw [List.pairwise_map]
    refine h.rise.imp ?_
    intro x y hxy
    repeat (first | exact hxy | split)
  all_goals
    intro x hx
    obtain ⟨y, hy, rfl⟩ := List.mem_map.1 hx
  · split
    · exact h.lt y hy
    · exact h.lt y hy
  · split
    · exact h.perm y hy
    · exact h.perm y hy
  · split
    · simpa [Pg.put] using h.len y hy
    · exact h.len y hy
theorem ModOk.uniq {M : List Pg} (h : ModOk M) {i j : Nat} {x y : Pg} (hi : M[i]? = some x) (hj : M[j]? = some y) (he : x.pg = y.pg) : i = j := by
  obtain ⟨hi1, hi2⟩ := List.getElem?_eq_some_iff.1 hi
  obtain ⟨hj1, hj2⟩ := List.getElem?_eq_some_iff.1 hj
  have := List.pairwise_iff_getElem.1 h.rise
  rcases Nat.lt_trichotomy i j with hl | hl | hl
  · have h1 := this i j hi1 hj1 hl
    rw [hi2, hj2] at h1; omega
  · exact hl
  · have h1 := this j i hj1 hi1 hl
    rw [hi2, hj2] at h1; omega
theorem ModOk.fndAt {M : List Pg} (h : ModOk M) {i : Nat} {x : Pg} (hi : M[i]? = some x) : fnd M x.pg = some x := by
  cases hf : fnd M x.pg with
  | none =>
    have h1 := List.find?_eq_none.1 hf x (List.mem_of_getElem? hi)
    simp at h1
  | some y =>
    obtain ⟨j, hj, hjp⟩ := fnd_at hf
    have := h.uniq hj hi hjp
    subst this
    rw [hi] at hj
    exact hj.symm ▸ rfl
/-- A page turned in place. -/
theorem map_one {M : List Pg} (h : ModOk M) {i : Nat} {x : Pg} (hi : M[i]? = some x) (f : Pg → Pg) : (M.map fun y => if y.pg = x.pg then f y else y) = M.set i (f x) := by
  apply List.ext_getElem?
  intro j
  rw [List.getElem?_map, List.getElem?_set]
  obtain ⟨hi1, hi2⟩ := List.getElem?_eq_some_iff.1 hi
  by_cases hij : i = j
  · subst hij
    rw [if_pos rfl, if_pos hi1, hi]
    simp
  · rw [if_neg hij]
    cases hj : M[j]? with
    | none => rfl
    | some y =>
      have : y.pg ≠ x.pg := fun he => hij (h.uniq hi hj he.symm)
      simp [this]

section
variable {e : Env} {w : World} {R : List HP} {m : Nat} {M : List Pg}
/-- The model with a page that was turned in hand. -/
theorem mod_turn {i mb : Nat} {x x' : Pg} (hi : M[i]? = some x) (hl : look (M.set i x') = look M) (H : Holds e w (pts x'.pb (pgObj x') :: pts x'.gb (bsObj x') :: modX m mb M i R)) :
    Holds e w (pts m (modObj mb) :: mapZ mb 68719476736 (look (M.set i x')) :: all pageH (M.set i x') :: R) := by
  refine mod_back (i := i) (x := x') (by rw [List.getElem?_set_self (List.getElem?_eq_some_iff.1 hi).1]) ?_
  unfold modX at *
  rw [List.eraseIdx_set_eq, hl]
  exact H

/-- An op in memory. -/
def opObj (kind perm n : Int) (a : Nat) (d : Value) : Obj := .cells #[.int .i64 kind, .int .i64 perm, .int .i64 n, .int .u64 a, d] 30 (0, 0)
set_option maxRecDepth 100000 in
set_option maxHeartbeats 1000000 in
theorem stClo {bx gb k off : Nat} {kind perm n : Int} {a : Nat} {ds bs : List UInt8} {d : Value} (hr : ∀ w', Holds e w' R → RdB w' d ds) (hdl : ds.length ≤ 4611686018427387904)
    (H : Holds e w (pts gb (.cells (u8v bs).toArray 5 (0, 0)) :: pts bx (opObj kind perm n a d) :: R)) (hk : k < ds.length) (ho : off < bs.length) :
    Calls Try.prog 86 #[.int .i64 k, .pointer (some ⟨gb, off, none⟩), .pointer (some ⟨bx, 0, none⟩)] w
      (Ret e (.tuple #[]) (pts gb (.cells (u8v (bs.set off (ds.getD k 0))).toArray 5 (0, 0)) :: pts bx (opObj kind perm n a d) :: R)) := by
  obtain ⟨ad, c, rfl⟩ := (hr w H.drop.drop).shape
  have c0 : w.cell? ⟨bx, 4, none⟩ = some (.slice ad ds.length c) := H.swap.cells 4
  obtain ⟨g, o, rfl, h1⟩ := (hr w H.drop.drop).at (by omega)
  have c1 := h1 k _ (u8v_get hk)
  have c2 : ∃ v, w.cell? ⟨gb, off, none⟩ = some v := ⟨_, (H.cells off).trans (u8A_get ho)⟩
  obtain ⟨v2, c2⟩ := c2
  have f2 := H.frozen
  have hv := (ds.getD k 0).toNat_lt
  have H1 := (H.set off (.int .u8 ((ds.getD k 0).toNat : Int)))
  rw [u8_set] at H1
  generalize ds.getD k 0 = v at *
  have HH := Lib.hid H1
  clear H H1 h1 hr
  go_enter Try.func86, Try.ntmps86
  go_wp2_with fail
  go_end0
  exact ⟨rfl, HH.out⟩
end
theorem There.wrAt {M : List Pg} {a n : Nat} (h : There M a n) (b : Nat) (v : UInt8) : There (wrAt M b v) a n := fun j hj => by
  obtain ⟨h1, h2⟩ := h j hj
  exact ⟨h1, by rw [fnd_wrAt, Option.isSome_map]; exact h2⟩
theorem wrb_ok {M : List Pg} (hO : ModOk M) (a : Nat) : ∀ (l : List UInt8), ModOk (wrb M a l) ∧ look (wrb M a l) = look M ∧ ∀ a' n, There M a' n → There (wrb M a l) a' n := by
  intro l
  unfold wrb
  generalize l.zipIdx = ps
  induction ps generalizing M with
  | nil => exact ⟨hO, rfl, fun _ _ h => h⟩
  | cons p ps ih =>
    obtain ⟨h1, h2, h3⟩ := ih (hO.wrAt (a + p.2) p.1)
    exact ⟨h1, h2.trans (look_wrAt _ _ _), fun a' n h => h3 a' n (h.wrAt _ _)⟩

section
variable {e : Env} {w : World} {R : List HP} {m : Nat} {M : List Pg}
set_option maxRecDepth 100000 in
set_option maxHeartbeats 4000000 in
theorem eachStore {bx : Nat} {kind perm n : Int} {a : Nat} {ds : List UInt8} {d : Value} (hr : ∀ w', Holds e w' R → RdB w' d ds) (hn : ds.length ≤ 64) (hT : There M a ds.length)
    (H : Holds e w (modH m M :: pts bx (opObj kind perm n a d) :: R)) :
    Calls Try.prog 84 #[.pointer (some ⟨m, 0, none⟩), .int .u64 a, .int .i64 ds.length, .func (.func 86) #[] #[.pointer (some ⟨bx, 0, none⟩)]] w
      (Ret e (.tuple #[]) (modH m (wrb M a ds) :: pts bx (opObj kind perm n a d) :: R)) := by
  have CP := Lib.hid fun (b : Nat) (hb : b < 18446744073709551616) (w' : World) => vaPage (w := w') b hb
  have CO := Lib.hid fun (b : Nat) (hb : b < 18446744073709551616) (w' : World) => vaOffset (w := w') b hb
  have hO0 := (mod_open H).choose_spec.1
  have HW := Lib.hid fun l => wrb_ok hO0 a l
  have HR := Lib.hid hr
  obtain ⟨len, hlen⟩ : ∃ len, ds.length = len := ⟨_, rfl⟩
  rw [hlen] at hn hT
  rw [hlen]
  clear hO0 hr
  go_enter Try.func84, Try.ntmps84
  go_wp2_with fail
  go_loopw [11] (fun i wr => ∃ (k : Nat), k ≤ len ∧ i = .int .i64 (k : Nat) ∧ Holds e wr (modH m (wrb M a (ds.take k)) :: pts bx (opObj kind perm n a d) :: R)) (fun i _ => len - (Go.RowKit.intOf i).toNat)
  case atStart => exact ⟨0, by omega, rfl, H⟩
  case round =>
    obtain ⟨k, hk, rfl, HX⟩ := hrel
    by_cases hlt : k < len
    · obtain ⟨hO1, hlk, hT1⟩ := HW.out (ds.take k)
      obtain ⟨hb64, hsome⟩ := hT1 _ _ hT k hlt
      have HS1 : Hid (wrb M a (ds.take (k + 1)) = wrAt (wrb M a (ds.take k)) (a + k) (ds.getD k 0)) := Lib.hid (by
        have e1 : ds.take (k + 1) = ds.take k ++ [ds.getD k 0] := by rw [List.take_add_one, get_getD (d := 0) (by omega)]; rfl
        rw [e1, wrb_snoc, List.length_take, Nat.min_eq_left (by omega)])
      generalize wrb M a (ds.take k) = Mk at *
      obtain ⟨x, hf⟩ := Option.isSome_iff_exists.1 hsome
      obtain ⟨b, hb⟩ : ∃ b, a + k = b := ⟨_, rfl⟩
      rw [hb] at hb64 hf HS1
      have hab : (a : Int) + (k : Int) = (b : Int) := by omega
      have hol := offOf_lt b
      obtain ⟨mb, hO, HY⟩ := mod_open HX
      obtain ⟨ix, hix, hxq⟩ := fnd_at hf
      have hxl := hO.len x (List.mem_of_getElem? hix)
      have hwa : wrAt Mk b (ds.getD k 0) = Mk.set ix (x.put (offOf b) (ds.getD k 0)) := by
        unfold wrAt; rw [← hxq]; exact map_one hO hix _
      have hlw := look_wrAt Mk b (ds.getD k 0)
      have hO2 := hO.wrAt b (ds.getD k 0)
      rw [hwa] at hlw HS1 hO2
      obtain ⟨q, hq⟩ : ∃ q, pgOf b = q := ⟨_, rfl⟩
      obtain ⟨o, ho⟩ : ∃ o, offOf b = o := ⟨_, rfl⟩
      have CPb : Hid (∀ w' X, Holds e w' X → Calls Try.prog 79 #[.int .u64 b] w' (Ret e (.int .i64 q) X)) := Lib.hid fun w' X h => retQ (hq ▸ CP.out b hb64 w') h
      have COb : Hid (∀ w' X, Holds e w' X → Calls Try.prog 95 #[.int .u64 b] w' (Ret e (.int .i64 o) X)) := Lib.hid fun w' X h => retQ (ho ▸ CO.out b hb64 w') h
      rw [ho] at hol HS1 hlw hO2
      rw [hq] at hf
      have HO2 := Lib.hid hO2
      have HLW := Lib.hid hlw
      have HS : Hid (∀ w' X, Holds e w' (pts m (modObj mb) :: mapZ mb 68719476736 (look Mk) :: all pageH Mk :: X) → eachS m mb q x w') := Lib.hid fun w' X h => eachS_of hf hix h
      have hf2 : fnd (Mk.set ix (x.put o (ds.getD k 0))) q = some (x.put o (ds.getD k 0)) := by
        have := hO2.fndAt (i := ix) (x := x.put o (ds.getD k 0)) (by rw [List.getElem?_set_self (List.getElem?_eq_some_iff.1 hix).1])
        rw [← hq, ← hxq]
        exact this
      have hix2 : (Mk.set ix (x.put o (ds.getD k 0)))[ix]? = some (x.put o (ds.getD k 0)) := by rw [List.getElem?_set_self (List.getElem?_eq_some_iff.1 hix).1]
      have HS2 : Hid (∀ w' X, Holds e w' (pts m (modObj mb) :: mapZ mb 68719476736 (look (Mk.set ix (x.put o (ds.getD k 0)))) :: all pageH (Mk.set ix (x.put o (ds.getD k 0))) :: X) → eachS m mb q x w') := Lib.hid fun w' X h => eachS_of (x := x.put o (ds.getD k 0)) hf2 hix2 h
      have HC : Hid (∀ w', Holds e w' (pts m (modObj mb) :: mapZ mb 68719476736 (look Mk) :: all pageH Mk :: pts bx (opObj kind perm n a d) :: R) → Calls Try.prog 86 #[.int .i64 k, .pointer (some ⟨x.gb, o, none⟩), .pointer (some ⟨bx, 0, none⟩)] w'
          (Ret e (.tuple #[]) (pts m (modObj mb) :: mapZ mb 68719476736 (look (Mk.set ix (x.put o (ds.getD k 0)))) :: all pageH (Mk.set ix (x.put o (ds.getD k 0))) :: pts bx (opObj kind perm n a d) :: R))) := Lib.hid fun w' h => by
        have h1 := mod_at (R := pts bx (opObj kind perm n a d) :: R) hix h
        have h2 : Holds e w' (pts x.gb (.cells (u8v x.bs).toArray 5 (0, 0)) :: pts bx (opObj kind perm n a d) :: pts x.pb (pgObj x) :: pts m (modObj mb) :: mapZ mb 68719476736 (look Mk) :: all pageH (Mk.eraseIdx ix) :: R) := by
          exact h1.re 6 [1, 5, 0, 2, 3, 4]
        refine (stClo (fun w'' h => HR.out w'' (h.drop.drop.drop.drop)) (by omega) h2 (by omega) (by omega)).mono ?_
        rintro en w1 ⟨rfl, h4⟩
        have h5 : Holds e w1 (pts (x.put o (ds.getD k 0)).pb (pgObj (x.put o (ds.getD k 0))) :: pts (x.put o (ds.getD k 0)).gb (bsObj (x.put o (ds.getD k 0))) :: modX m mb Mk ix (pts bx (opObj kind perm n a d) :: R)) := h4.re 6 [2, 0, 3, 4, 5, 1]
        exact ⟨rfl, mod_turn hix HLW.out h5⟩
      have hoI : (o : Int) < 4096 := by omega
      have hoJ : (0 : Int) ≤ o := by omega
      have hd := HY.drew
      clear hb hq ho hf hsome hf2 hix2 hO2 hlw hwa hT1 hlk hO1
      go_wp2_with fail
      go_region_held3 (fun w' => w'.cell? ⟨m, 0, none⟩ = some (.map (some mb)) ∧ (Instr.lookup 126 (.map (some mb)) (.int .i64 q) false).run Try.prog w' = .ok (.pointer (some ⟨x.pb, 0, none⟩)) w' ∧ w'.cell? ⟨x.pb, 1, none⟩ = some (.slice (some ⟨x.gb, 0, none⟩) 4096 4096))
        (first | exact HS.out _ _ (by assumption) | exact HS2.out _ _ (by assumption))
        (first
          | (go_at_call 79; refine (CPb.out _ _ (by assumption)).mono ?_; rintro e w4 ⟨rfl, HN⟩)
          | (go_at_call 95; refine (COb.out _ _ (by assumption)).mono ?_; rintro e w4 ⟨rfl, HN⟩)
          | (go_at_call 86; refine (HC.out _ (by assumption)).mono ?_; rintro e w4 ⟨rfl, HN⟩))
      all_goals
        have HM := mod_close HO2.out HN
        rw [← HS1.out] at HM
        clear HS HC CPb COb HN hd HY HS2 HLW HO2 HS1
        go_wp2_with fail
        go_roundw
        case rel => exact ⟨k + 1, by omega, by go_num, HM⟩
        case measure => simp [Go.RowKit.intOf]; omega
    · obtain rfl : k = len := by omega
      rw [List.take_of_length_le (by omega)] at HX
      go_wp2_with fail
      go_end0
      exact ⟨rfl, HX⟩
end
end Go.Proofs.Ytjbphdjheklhbaa
