/-
  Text: lines.
-/
import Derived.Test.YtiidfgomfmfaoaaDoorT5
import Derived.Lib.Join
namespace Go.Proofs.YtiidfgomfmfaoaaDoor
open Go.RowKit

def lineL (ws : List (List UInt8)) : List UInt8 := Lib.join ws [32] ++ [10]
def ba (l : List UInt8) : ByteArray := ⟨l.toArray⟩

section
variable {w : World}
set_option maxHeartbeats 400000 in
theorem line_any (bk o n c : Nat) (ws : List (List UInt8)) (hn : ws.length = n) (hb : bk < w.heap.size) (hc : n ≤ c) (h10 : n ≤ 10) (hlen : ∀ x ∈ ws, x.length ≤ 10000) (hcells : ∀ j x, ws[j]? = some x → w.cell? ⟨bk, o + j, none⟩ = some ((Value.string ⟨List.toArray (x)⟩))) :
    Calls Tryd.prog 19 #[.slice (some ⟨bk, o, none⟩) n c] w (Pur w ((Value.string ⟨List.toArray (lineL ws)⟩))) := by
  have hjl : ∀ ws : List (List UInt8), (∀ x ∈ ws, x.length ≤ 10000) → (Lib.join ws [32]).length ≤ ws.length * 10001 := by
    intro ws h
    have htail : ∀ r : List (List UInt8), (∀ x ∈ r, x.length ≤ 10000) → (Lib.joinTail [32] r).length ≤ r.length * 10001 := by
      intro r
      induction r with
      | nil => intro _; simp [Lib.joinTail]
      | cons x r ih =>
        intro hr
        have h1 := ih (fun y hy => hr y (by simp [hy]))
        have h2 := hr x (by simp)
        simp only [Lib.joinTail, List.map_cons, List.flatten_cons, List.length_append, List.length_cons, List.length_nil] at h1 ⊢
        omega
    cases ws with
    | nil => rw [Lib.join_nil]; simp
    | cons x r =>
      rw [Lib.join_cons, List.length_append]
      have h1 := htail r (fun y hy => h y (by simp [hy]))
      have h2 := h x (by simp)
      simp only [List.length_cons]
      omega
  have h := Tryd.strings_Join bk o c (ws.map ba) (ba [32]) w (by
    intro j x hx
    rw [List.getElem?_map, Option.map_eq_some_iff] at hx
    obtain ⟨l, h1, rfl⟩ := hx
    exact hcells j l h1) hb (by rw [List.length_map]; omega) (by rw [List.length_map]; omega) (by
      have e1 : (ws.map ba).map (·.data.toList) = ws := by rw [List.map_map]; simp [ba, Function.comp_def]
      rw [e1]
      have := hjl ws hlen
      show (Lib.join ws [32]).length ≤ _
      omega)
  have e1 : (ws.map ba).map (·.data.toList) = ws := by rw [List.map_map]; simp [ba, Function.comp_def]
  rw [e1, List.length_map, hn, show (ba [32]).data.toList = [32] from rfl] at h
  have hl2 := hjl ws hlen
  unfold lineL
  have h' : Calls Tryd.prog 38 #[.slice (some ⟨bk, o, none⟩) n c, .string ⟨#[32]⟩] w (Pur w ((Value.string ⟨List.toArray (Lib.join ws [32])⟩))) := h
  generalize Lib.join ws [32] = jl at *
  clear h e1 hjl
  have hl3 : jl.length ≤ 1000000 := by omega
  go_enter Tryd.func19, Tryd.ntmps19
  go_wp2_with fail
  refine h'.mono ?_
  rintro e w1 ⟨rfl, hb⟩
  go_wp2
  go_ret
  exact ⟨congrArg (fun x => Ending.returned (Value.string x)) (bapp jl [10]), hb⟩

def names11 : List (List UInt8) := [[109, 97, 112], [117, 110, 109, 97, 112], [112, 114, 111, 116, 101, 99, 116], [108, 111, 97, 100], [115, 116, 111, 114, 101], [102, 101, 116, 99, 104], [114, 101, 99, 108, 97, 105, 109], [99, 111, 109, 112, 97, 99, 116], [119, 114, 105, 116, 101, 98, 97, 99, 107], [115, 104, 114, 105, 110, 107], [108, 105, 109, 105, 116]]
def strVs (l : List (List UInt8)) : Array Value := (l.map fun x => (Value.string ⟨List.toArray (x)⟩)).toArray
set_option maxRecDepth 100000 in
set_option maxHeartbeats 1000000 in
theorem word_any (k : Nat) (hk : k < 11) : Calls Tryd.prog 42 #[.int .i64 k] w (Pur w ((Value.string ⟨List.toArray (names11.getD k [])⟩))) := by
  go_enter Tryd.func42, Tryd.ntmps42
  go_wp2
  go_ret
  refine ⟨?_, (Below.refl _ w).alloc (Nat.le_refl _) _⟩
  have : k = 0 ∨ k = 1 ∨ k = 2 ∨ k = 3 ∨ k = 4 ∨ k = 5 ∨ k = 6 ∨ k = 7 ∨ k = 8 ∨ k = 9 ∨ k = 10 := by omega
  rcases this with rfl | rfl | rfl | rfl | rfl | rfl | rfl | rfl | rfl | rfl | rfl <;> rfl

theorem names_eq : Tryd.prog.underlying 52 = some (.slice 9) := by kernel_rfl
set_option maxRecDepth 100000 in
set_option maxHeartbeats 1000000 in
theorem refNames : Calls Tryd.prog 24 #[] w (fun en w' => en = .returned (.slice (some ⟨w.heap.size, 0, none⟩) 11 11) ∧ w' = w.alloc (.cells (strVs names11) 9)) := by
  go_enter Tryd.func24, Tryd.ntmps24
  go_wp2
  go_ret
  exact ⟨rfl, rfl⟩

/-! bytes -/
def bytesL (l : List UInt8) : List UInt8 := [61] ++ l.flatMap (fun c => [hexd (c.toNat / 16), hexd (c.toNat % 16)])

theorem refHexQ (k : Nat) (hk : k < 16) : Calls Tryd.prog 34 #[.int .i64 k] w (fun en w' => en = .returned ((Value.string ⟨List.toArray ([hexd k])⟩)) ∧ w' = w) := by
  have hx : (⟨#[48, 49, 50, 51, 52, 53, 54, 55, 56, 57, 97, 98, 99, 100, 101, 102]⟩ : ByteArray).extract k (k + 1) = ⟨#[hexd k]⟩ := hexs k hk
  generalize hexd k = c at *
  go_enter Tryd.func34, Tryd.ntmps34
  go_wp2
  go_ret
  exact ⟨rfl, rfl⟩

theorem bytesL_len (l : List UInt8) : (bytesL l).length = 1 + l.length * 2 := by
  unfold bytesL
  induction l with
  | nil => rfl
  | cons c l ih => simp at ih ⊢; omega
theorem bytesL_succ (l : List UInt8) (k : Nat) (hk : k < l.length) : bytesL (l.take (k + 1)) = bytesL (l.take k) ++ [hexd (l[k].toNat / 16), hexd (l[k].toNat % 16)] := by
  unfold bytesL
  rw [List.take_add_one, List.getElem?_eq_getElem hk, Option.toList_some, List.flatMap_append, ← List.append_assoc]
  rfl

set_option maxRecDepth 100000 in
set_option maxHeartbeats 2000000 in
theorem refBytes (ad : Option Addr) (n c : Nat) (l : List UInt8) (hl : l.length = n) (hn : n ≤ 1000) (hc : ∀ k (hk : k < l.length), ∃ b o, ad = some ⟨b, o, none⟩ ∧ w.cell? ⟨b, o + k, none⟩ = some (.int .u8 (l[k].toNat : Int))) :
    Calls Tryd.prog 16 #[.slice ad n c] w (Pur w ((Value.string ⟨List.toArray (bytesL l)⟩))) := by
  go_enter Tryd.func16, Tryd.ntmps16
  go_wp2
  go_loopw [3, 4] (fun s i wr => ∃ k : Nat, k ≤ n ∧ i = .int .i64 (k : Nat) ∧ s = (Value.string ⟨List.toArray (bytesL (l.take k))⟩) ∧ Hid (Below w.heap.size w wr) ∧ Hid (∀ k (hk : k < l.length), ∃ b o, ad = some ⟨b, o, none⟩ ∧ wr.cell? ⟨b, o + k, none⟩ = some (.int .u8 (l[k].toNat : Int)))) (fun _ i _ => n - (intOf i).toNat)
  case atStart => exact ⟨0, by omega, rfl, rfl, Lib.hid (Below.refl _ _), Lib.hid hc⟩
  case round =>
    obtain ⟨k, hk, rfl, rfl, hB, hC⟩ := hrel
    clear hc
    by_cases hlt : k < n
    · obtain ⟨b, o, rfl, hcc⟩ := hC.out k (by omega)
      have hs := bytesL_succ l k (by omega)
      have hbl := bytesL_len (l.take k)
      rw [List.length_take] at hbl
      have hc16 : l[k].toNat < 256 := UInt8.toNat_lt _
      generalize l[k].toNat = x at *
      have HS := Lib.hid hs
      clear hs
      generalize bytesL (l.take k) = t at *
      have ht : t.length ≤ 100000 := by omega
      have c1 : ∀ W : World, Calls Tryd.prog 34 #[.int .i64 ((x : Int) / 16)] W (fun en w' => en = .returned ((Value.string ⟨List.toArray ([hexd (x / 16)])⟩)) ∧ w' = W) := fun W => refHexQ (w := W) (x / 16) (by omega)
      have c2 : ∀ W : World, Calls Tryd.prog 34 #[.int .i64 ((x : Int) % 16)] W (fun en w' => en = .returned ((Value.string ⟨List.toArray ([hexd (x % 16)])⟩)) ∧ w' = W) := fun W => refHexQ (w := W) (x % 16) (by omega)
      have hw1 : IntKind.i64.wrap (x : Int) = (x : Int) := IntWalk.i64_in _ (by omega)
      have hw2 : (x : Int).tdiv 16 = (x : Int) / 16 := Int.tdiv_eq_ediv_of_nonneg (by omega)
      have hw3 : IntKind.i64.wrap ((x : Int) / 16) = (x : Int) / 16 := IntWalk.i64_in _ (by omega)
      have hw4 : (x : Int).tmod 16 = (x : Int) % 16 := Int.tmod_eq_emod_of_nonneg (by omega)
      have hw5 : IntKind.i64.wrap ((x : Int) % 16) = (x : Int) % 16 := IntWalk.i64_in _ (by omega)
      have C1 := Lib.hid c1
      have C2 := Lib.hid c2
      clear c1 c2
      generalize hexd (x / 16) = d1 at *
      generalize hexd (x % 16) = d2 at *
      go_wp2_with fail
      go_quiet (first | (go_at_call 34; refine Calls.quiet_of_same (C1.out _)) | (go_at_call 34; refine Calls.quiet_of_same (C2.out _)))
      go_wp2
      go_roundw
      case rel =>
        refine ⟨k + 1, by omega, by go_num, ?_, Lib.hid (hB.out.trans ⟨rfl, rfl, rfl, Nat.le_refl _, fun _ _ => rfl⟩), hC⟩
        rw [HS.out]
        have h1 := bapp t [d1]
        have h2 := bapp (t ++ [d1]) [d2]
        rw [← h1] at h2
        rw [List.append_assoc] at h2
        exact congrArg Value.string h2
      case measure => simp [intOf]; omega
    · obtain rfl : k = n := by omega
      rw [show l.take k = l from List.take_of_length_le (by omega)]
      go_wp2
      go_ret
      exact ⟨rfl, hB.out⟩
end
end Go.Proofs.YtiidfgomfmfaoaaDoor
