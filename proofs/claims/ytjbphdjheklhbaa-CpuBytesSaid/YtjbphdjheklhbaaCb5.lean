/-
  Layer 48: are the instructions of bytes the document's?
-/
import Derived.Test.YtjbphdjheklhbaaCb3
import Derived.Test.YtjbphdjheklhbaaCb3b
import Derived.Test.YtjbphdjheklhbaaCb4
namespace Go.Proofs.Ytjbphdjheklhbaa
open Go.RowKit

section
variable {e : Env} {w : World} {R : List HP}
theorem ref48Take (l : List UInt8) (hl : l.length = 8) (v : Value) (hr : ∀ w', Holds e w' R → RdB w' v l) (H : Holds e w R) :
    Calls Try.prog 56 #[v] w (Ret e (.tuple #[(insOf l).val, .bool (insOk l)]) R) := by
  by_cases hu : unle ((l.drop 4).take 4) < 2147483648
  · exact ref48TakeA l hl hu v hr H
  · exact ref48TakeB l hl hu v hr H
set_option maxRecDepth 100000 in
set_option maxHeartbeats 2000000 in
theorem cpuTakes (l : List UInt8) (hl : l.length ≤ 1000) (v : Value) (hr : ∀ w', Holds e w' R → RdB w' v l) (H : Holds e w R) :
    Calls Try.prog 30 #[v] w (Ret e (.bool true) R) := by
  have CT := Lib.hid (cpuTake l hl v hr H)
  obtain ⟨ad, c, rfl⟩ := (hr w H).shape
  obtain ⟨len, hlen⟩ : ∃ len, l.length = len := ⟨_, rfl⟩
  have HLEN := Lib.hid hlen
  have HR : Hid (∀ w', Holds e w' R → Reads w' (.slice ad len c) 1 len (u8v l)) := Lib.hid fun w' h => by
    have h2 := hr w' h
    unfold RdB at h2
    rw [hlen] at h2
    exact h2
  have hcap : len ≤ c := by
    rcases (HR.out w H).2 with ⟨h, h'⟩ | ⟨a', c', h, h', _⟩
    · omega
    · cases h; exact h'
  obtain ⟨L, hL⟩ : ∃ L, tkL l = L := ⟨_, rfl⟩
  obtain ⟨A, hA⟩ : ∃ A, tkA l = A := ⟨_, rfl⟩
  obtain ⟨EE, hEE⟩ : ∃ EE, tkE l = EE := ⟨_, rfl⟩
  have hn : tkN l = len / 8 := by unfold tkN; rw [hlen]
  have HL : Hid (L = if (takeF (len / 8) l).2 = true ∧ len % 8 = 0 then (takeF (len / 8) l).1 else []) := Lib.hid (by rw [← hL]; unfold tkL; rw [hn, hlen])
  have HA : Hid (A = if (takeF (len / 8) l).2 = true then 8 * (len / 8) else 8 * (takeF (len / 8) l).1.length) := Lib.hid (by rw [← hA]; unfold tkA; rw [hn])
  have HEE : Hid (EE = if (takeF (len / 8) l).2 = true then (if len % 8 = 0 then 0 else 4) else 3) := Lib.hid (by rw [← hEE]; unfold tkE; rw [hn, hlen])
  rw [hL, hA, hEE] at CT
  rw [hlen] at hl CT ⊢
  clear hr hL hA hEE hlen H hn
  go_enter Try.func30, Try.ntmps30
  go_wp2_with fail
  refine CT.out.mono ?_
  rintro en w1 ⟨lv, rfl, H1⟩
  obtain ⟨la, lc, rfl⟩ := row_shape H1
  obtain ⟨nl, hnl⟩ : ∃ nl, L.length = nl := ⟨_, rfl⟩
  rw [hnl] at H1 ⊢
  have HNL := Lib.hid hnl
  clear CT
  go_wp2_with fail
  go_loopw [6] (fun i wr => ∃ (k j : Nat) (P : List InsS), i = .int .i64 (k : Nat) ∧ k + j = len / 8 ∧ P.length = k ∧ Hid (takeF (len / 8) l = (P ++ (takeF j (l.drop (8 * k))).1, (takeF j (l.drop (8 * k))).2)) ∧ Holds e wr (row (.slice la nl lc) 71 4 nl (L.flatMap InsS.cells) :: R)) (fun i _ => len - (Go.RowKit.intOf i).toNat)
  case atStart => exact ⟨0, len / 8, [], rfl, by omega, rfl, Lib.hid (by simp), H1⟩
  case round =>
    clear H1
    obtain ⟨k, j, P, rfl, hkj, hP, hF, HX⟩ := hrel
    obtain ⟨at', hat⟩ : ∃ at', 8 * k = at' := ⟨_, rfl⟩
    have i0 : (8 : Int) * (k : Int) = (at' : Int) := by omega
    rw [hat] at hF
    obtain ⟨to', hto⟩ : ∃ to', at' + 8 = to' := ⟨_, rfl⟩
    have i2 : (at' : Int) + 8 = (to' : Int) := by omega
    have hatl : at' ≤ len := by omega
    by_cases hj : j = 0
    · subst hj
      have hlt : decide ((to' : Int) ≤ (len : Int)) = false := decide_eq_false (by omega)
      have hlt3 : ¬ to' ≤ len := by omega
      have hFF : takeF (len / 8) l = (P, true) := by rw [hF.out]; simp [takeF]
      have hAA : A = at' := by rw [HA.out, hFF, if_pos rfl]; omega
      by_cases hm : len % 8 = 0
      · have hLL : nl = k := by rw [← HNL.out, HL.out, hFF, if_pos ⟨rfl, hm⟩]; exact hP
        have hE0 : EE = 0 := by rw [HEE.out, hFF, if_pos rfl, if_pos hm]
        have hal : at' = len := by omega
        have hlt2 : decide ((at' : Int) < (len : Int)) = false := decide_eq_false (by omega)
        subst hE0 hAA hLL
        subst hal
        have HH := Lib.hid HX.drop
        clear HX hF hFF hat hto hkj
        go_wp2_with fail
        go_ret
        exact ⟨rfl, HH.out⟩
      · have hLL : nl = 0 := by rw [← HNL.out, HL.out, hFF, if_neg (fun h => hm h.2)]; rfl
        have hE4 : EE = 4 := by rw [HEE.out, hFF, if_pos rfl, if_neg hm]
        have hlt2 : decide ((at' : Int) < (len : Int)) = true := decide_eq_true (by omega)
        have hlt4 : at' < len := by omega
        subst hE4 hAA hLL
        have HH := Lib.hid HX.drop
        clear HX hF hFF hat hto hkj
        go_wp2_with fail
        go_ret
        exact ⟨rfl, HH.out⟩
    · obtain ⟨j', rfl⟩ : ∃ j', j = j' + 1 := ⟨j - 1, by omega⟩
      have htl : to' ≤ len := by omega
      have hlt : decide ((to' : Int) ≤ (len : Int)) = true := decide_eq_true (by omega)
      obtain ⟨g, o, rfl, _⟩ := (HR.out _ HX.drop).at (by omega)
      have hl8 : ((l.drop at').take 8).length = 8 := by rw [List.length_take, List.length_drop, HLEN.out]; omega
      have CO : Hid (∀ w' X, (∀ w'', Holds e w'' X → Holds e w'' R) → Holds e w' X → Calls Try.prog 56 #[.slice (some ⟨g, o + at', none⟩) 8 (c - at')] w' (Ret e (.tuple #[(insOf ((l.drop at').take 8)).val, .bool (insOk ((l.drop at').take 8))]) X)) := Lib.hid fun w' X hX h' =>
        ref48Take _ hl8 _ (fun w'' h => by
          have h1 := reads_take (k := to') (HR.out w'' (hX _ h)) (by omega)
          have h2 := reads_drop (k := at') h1 (by omega)
          rw [Nat.mul_one, Nat.mul_one, u8v_take, u8v_drop, List.drop_take, show to' - at' = 8 by omega] at h2
          unfold RdB
          rw [hl8]
          exact h2) h'
      have hF2 : takeF (len / 8) l = if insOk ((l.drop at').take 8) = true then (P ++ insOf ((l.drop at').take 8) :: (takeF j' (l.drop (at' + 8))).1, (takeF j' (l.drop (at' + 8))).2) else (P, false) := by
        rw [hF.out]
        conv => lhs; unfold takeF
        rw [List.drop_drop]
        split <;> simp
      have e8 : to' - at' = 8 := by omega
      have ac : at' ≤ c := by omega
      have tc : (to' : Int) ≤ (c : Int) := by omega
      have atI : (at' : Int) ≤ (to' : Int) := by omega
      have hck : ¬ c = at' := by omega
      obtain ⟨x, hx⟩ : ∃ x, insOf ((l.drop at').take 8) = x := ⟨_, rfl⟩
      obtain ⟨io, hio⟩ : ∃ io, insOk ((l.drop at').take 8) = io := ⟨_, rfl⟩
      rw [hx, hio] at CO hF2
      obtain ⟨op, rr, ss, imm⟩ := x
      unfold InsS.val at CO
      dsimp only at CO
      cases io
      · rw [if_neg (by decide)] at hF2
        have hAA : A = at' := by rw [HA.out, hF2, if_neg (fun h => by cases h)]; dsimp only; rw [hP]; exact hat
        have hLL : nl = 0 := by rw [← HNL.out, HL.out, hF2, if_neg (fun h => by cases h.1)]; rfl
        have hE3 : EE = 3 := by rw [HEE.out, hF2, if_neg (fun h => by cases h)]
        subst hAA hLL hE3
        clear hF hF2 hat hx hio hl8 hto
        go_wp2_with fail
        refine (CO.out _ _ (fun _ g => g.drop) HX).mono ?_
        rintro en w2 ⟨rfl, H2⟩
        have HH : Hid (Holds e (w2.alloc (.cells #[.int .i64 op, .int .i64 rr, .int .i64 ss, .int .i32 imm] 70)) R) := Lib.hid ((H2.alloc _).drop.drop)
        clear CO HX H2
        go_wp2_with fail
        go_ret
        exact ⟨rfl, HH.out⟩
      · rw [if_pos rfl] at hF2
        have HF2 : Hid (takeF (len / 8) l = ((P ++ [⟨op, rr, ss, imm⟩]) ++ (takeF j' (l.drop (8 * (k + 1)))).1, (takeF j' (l.drop (8 * (k + 1)))).2)) := Lib.hid (by
          rw [hF2, show 8 * (k + 1) = at' + 8 by omega]
          simp)
        have hpl : (P ++ [(⟨op, rr, ss, imm⟩ : InsS)]).length = k + 1 := by rw [List.length_append, List.length_singleton, hP]
        have hk1000 : k ≤ 1000 := by omega
        have hE : EE = 0 → L[k]? = some ⟨op, rr, ss, imm⟩ := fun h0 => by
          have h1 := HEE.out
          rw [h0] at h1
          have h2 : (takeF (len / 8) l).2 = true ∧ len % 8 = 0 := by
            by_cases q1 : (takeF (len / 8) l).2 = true
            · rw [if_pos q1] at h1
              by_cases q2 : len % 8 = 0
              · exact ⟨q1, q2⟩
              · rw [if_neg q2] at h1; cases h1
            · rw [if_neg q1] at h1; cases h1
          rw [HL.out, if_pos h2, hF2]
          dsimp only
          rw [List.getElem?_append_right (by omega), hP]
          simp
        clear hF hF2 hat hx hio hl8 hto
        go_wp2_with fail
        refine (CO.out _ _ (fun _ g => g.drop) HX).mono ?_
        rintro en w2 ⟨rfl, H2⟩
        clear CO HX
        by_cases hE0 : EE = 0
        · have hLk := hE hE0
          have hkl := (List.getElem?_eq_some_iff.1 hLk).1
          rw [HNL.out] at hkl
          have d0 : ((EE : Int) == 0) = true := by simp [hE0]
          have H3 := (H2.alloc (.cells #[.int .i64 op, .int .i64 rr, .int .i64 ss, .int .i32 imm] 70))
          obtain ⟨bx, hbx⟩ : ∃ bx, w2.heap.size = bx := ⟨_, rfl⟩
          rw [hbx] at H3
          obtain ⟨g2, o2, hla, _⟩ := (row.reads H2).at (by omega)
          subst hla
          have HCE : Hid (∀ w', Holds e w' (pts bx (.cells #[.int .i64 op, .int .i64 rr, .int .i64 ss, .int .i32 imm] 70 (0, 0)) :: row (.slice (some ⟨g2, o2, none⟩) nl lc) 71 4 nl (L.flatMap InsS.cells) :: R) → (∀ j, w'.cell? ⟨bx, j, none⟩ = #[Value.int .i64 op, .int .i64 rr, .int .i64 ss, .int .i32 imm][j]?) ∧ w'.cell? ⟨g2, o2 + k * 4, none⟩ = some (.int .i64 op) ∧ w'.cell? ⟨g2, o2 + k * 4 + 1, none⟩ = some (.int .i64 rr) ∧ w'.cell? ⟨g2, o2 + k * 4 + 2, none⟩ = some (.int .i64 ss) ∧ w'.cell? ⟨g2, o2 + k * 4 + 3, none⟩ = some (.int .i32 imm)) := Lib.hid fun w' h' => by
            obtain ⟨g3, o3, hg3, rr3⟩ := (row.reads h'.drop).at (by omega)
            cases hg3
            exact ⟨h'.cells, rr3 _ _ (icells_at hLk 0 (by omega)), by rw [Nat.add_assoc]; exact rr3 _ _ (icells_at hLk 1 (by omega)), by rw [Nat.add_assoc]; exact rr3 _ _ (icells_at hLk 2 (by omega)), by rw [Nat.add_assoc]; exact rr3 _ _ (icells_at hLk 3 (by omega))⟩
          have hki : decide ((nl : Int) ≤ (k : Int)) = false := decide_eq_false (by omega)
          have hkn : ¬ nl ≤ k := by omega
          have hkI : (k : Int) < (nl : Int) := by omega
          obtain ⟨I, Wf, hI, hW, hWs⟩ := worlds_of H3
          have r1 : ∀ i j, (Wf i).cell? ⟨bx, j, none⟩ = #[Value.int .i64 op, .int .i64 rr, .int .i64 ss, .int .i32 imm][j]? := fun i => (HCE.out _ (hW i)).1
          have r2 := fun i => (HCE.out _ (hW i)).2.1
          have r3 := fun i => (HCE.out _ (hW i)).2.2.1
          have r4 := fun i => (HCE.out _ (hW i)).2.2.2.1
          have r5 := fun i => (HCE.out _ (hW i)).2.2.2.2
          clear H2 hE hLk hE0
          go_wp2_with fail
          refine wp_region_holds hWs H3 (by kernel_rfl) (by kernel_rfl) ?_
          (repeat (go_big_quiet_step (fail))); refine wpQuiet_nil ?_; intro _ hw'; obtain ⟨nq, hw''⟩ := hw'; subst hw''
          have H8 := Lib.hid (hW nq).drop
          clear r1 r2 r3 r4 r5 hW hWs H3 HCE
          go_wp2_with fail
          go_roundw
          case rel => exact ⟨k + 1, j', P ++ [⟨op, rr, ss, imm⟩], by go_num, by omega, hpl, HF2, H8.out⟩
          case measure => simp [Go.RowKit.intOf]; omega
        · have d0 : ((EE : Int) == 0) = false := by simp; omega
          have H3 := (H2.alloc (.cells #[.int .i64 op, .int .i64 rr, .int .i64 ss, .int .i32 imm] 70))
          obtain ⟨I, Wf, hI, hW, hWs⟩ := worlds_of H3
          clear H2 hE hE0
          go_wp2_with fail
          refine wp_region_holds hWs H3 (by kernel_rfl) (by kernel_rfl) ?_
          (repeat (go_big_quiet_step (fail))); refine wpQuiet_nil ?_; intro _ hw'; obtain ⟨nq, hw''⟩ := hw'; subst hw''
          have H8 := Lib.hid (hW nq).drop
          clear hW hWs H3
          go_wp2_with fail
          refine ⟨⟨k + 1, j', P ++ [⟨op, rr, ss, imm⟩], by go_num, by omega, hpl, HF2, H8.out⟩, ?_⟩
          simp [Go.RowKit.intOf]; omega
end
end Go.Proofs.Ytjbphdjheklhbaa
